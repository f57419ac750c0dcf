/- What functions of the given program do, one after the other, told by that layer. -/
import Derived.Test.YtdgbbfbgakeaaaaADelay3
import Derived.Test.YtdgbbfbgakeaaaaARd
namespace Go.Proofs.C
open Go.Lg
set_option maxRecDepth 100000

def u32 (x : Int) : Nat := (x % 4294967296).toNat
theorem u32_lt (x : Int) : u32 x < 4294967296 := by unfold u32; omega
theorem u32_eq (x : Int) : IntKind.i64.wrap (IntKind.u32.wrap x) = (u32 x : Nat) := by
  unfold u32
  rw [IntKind.wrap_u32, i64_id (by omega) (by omega)]
  omega

section
variable {B : Nat} {S R : Ents}
set_option maxHeartbeats 1000000 in
theorem delayFallsL {mean most u v : Int} :
    CallWp Try.prog B 9 #[.int .i64 mean, .int .i64 most, .agg #[.int .i64 u, .int .i64 v]] (fun v _ => v = .bool true) S := by
  have hm := um_lt (x := mean) (d := 4096) (by decide)
  have ho := um_lt (x := most) (d := 4096) (by decide)
  have em := um_eq (x := mean) (d := 4096) (by decide) (by decide)
  have eo := um_eq (x := most) (d := 4096) (by decide) (by decide)
  generalize um mean 4096 = m at hm em
  generalize um most 4096 = o at ho eo
  have hu := u32_lt u
  have hv := u32_lt v
  have eu := u32_eq u
  have ev := u32_eq v
  generalize u32 u = x0 at hu eu
  generalize u32 v = y0 at hv ev
  refine CallWp.enter (args := [_, _, _]) Try.func9 rfl Try.ntmps9 rfl ?_
  refine Wp.seq (Wp.region ?_)
  refine OWp.step rfl (Step.box rfl rfl rfl ?_); intro L hBL hLL
  refine OWp.evs 1 rfl ?_
  refine OWp.nil ?_
  refine Wp.seq (Wp.regionDraw [0, 1, 2, 3, 4, 5] [] rfl (by decide +kernel) ?_)
  refine DWp.evs 1 rfl ?_
  first | refine DWp.load (List.Mem.head _) rfl rfl rfl rfl rfl rfl rfl ?_ | refine DWp.load (List.Mem.tail _ (List.Mem.head _)) rfl rfl rfl rfl rfl rfl rfl ?_ | refine DWp.load (List.Mem.tail _ (List.Mem.tail _ (List.Mem.head _))) rfl rfl rfl rfl rfl rfl rfl ?_ | refine DWp.load (List.Mem.tail _ (List.Mem.tail _ (List.Mem.tail _ (List.Mem.head _)))) rfl rfl rfl rfl rfl rfl rfl ?_ | refine DWp.load (List.Mem.tail _ (List.Mem.tail _ (List.Mem.tail _ (List.Mem.tail _ (List.Mem.head _))))) rfl rfl rfl rfl rfl rfl rfl ?_ | refine DWp.load (List.Mem.tail _ (List.Mem.tail _ (List.Mem.tail _ (List.Mem.tail _ (List.Mem.tail _ (List.Mem.head _)))))) rfl rfl rfl rfl rfl rfl rfl ?_
  refine DWp.evs 1 rfl ?_
  first | refine DWp.load (List.Mem.head _) rfl rfl rfl rfl rfl rfl rfl ?_ | refine DWp.load (List.Mem.tail _ (List.Mem.head _)) rfl rfl rfl rfl rfl rfl rfl ?_ | refine DWp.load (List.Mem.tail _ (List.Mem.tail _ (List.Mem.head _))) rfl rfl rfl rfl rfl rfl rfl ?_ | refine DWp.load (List.Mem.tail _ (List.Mem.tail _ (List.Mem.tail _ (List.Mem.head _)))) rfl rfl rfl rfl rfl rfl rfl ?_ | refine DWp.load (List.Mem.tail _ (List.Mem.tail _ (List.Mem.tail _ (List.Mem.tail _ (List.Mem.head _))))) rfl rfl rfl rfl rfl rfl rfl ?_ | refine DWp.load (List.Mem.tail _ (List.Mem.tail _ (List.Mem.tail _ (List.Mem.tail _ (List.Mem.tail _ (List.Mem.head _)))))) rfl rfl rfl rfl rfl rfl rfl ?_
  refine DWp.evs 2 rfl ?_
  refine DWp.nil ?_
  refine Wp.seq ?_
  refine Wp.seq (Wp.region ?_)
  refine OWp.step rfl (Step.call rfl rfl rfl rfl rfl rfl ((dworks ?_)))
  refine OWp.evs 1 rfl ?_
  refine OWp.nil ?_
  refine Wp.cond rfl (fun c => nomatch c) (fun _ => ?_)
  refine Wp.skip ?_
  refine Wp.seq (Wp.region ?_)
  refine OWp.evs 10 rfl ?_
  refine OWp.nil ?_
  refine Wp.weaken (E' := [(0, .int .i64 (m : Int)), (1, .int .i64 (o : Int)), (7, .int .i64 u), (8, .int .i64 v)]) (.cons' rfl (int_eq em) (.cons' rfl (int_eq eo) (.cons rfl (.cons rfl (.nil _))))) (fun _ h => h) ?_
  refine Wp.seq (Wp.region ?_)
  refine OWp.evs 8 rfl ?_
  refine OWp.nil ?_
  refine Wp.weaken (E' := [(0, .int .i64 (m : Int)), (1, .int .i64 (o : Int)), (9, .int .i64 (x0 : Int)), (10, .int .i64 (y0 : Int))]) (.cons rfl (.cons rfl (.cons' rfl (int_eq eu) (.cons' rfl (int_eq ev) (.nil _))))) (fun _ h => h) ?_
  refine Wp.seqS (α := Nat × Nat) (fun z => [(0, .int .i64 (m : Int)), (1, .int .i64 (o : Int)), (9, .int .i64 (z.1 : Int)), (10, .int .i64 (z.2 : Int))]) (fun _ => S) (fun z => z.1 ≤ z.2 ∧ z.2 < 4294967296) ?_ ?_
  · skip
    refine Wp.drop (S' := S) (by repeat (first | exact List.Sublist.refl _ | exact List.sublist_append_right _ _ | apply List.Sublist.cons)) ?_
    refine Wp.seq (Wp.region ?_)
    refine OWp.evs 3 rfl ?_
    refine OWp.nil ?_
    refine Wp.cond rfl (fun h1 => ?_) (fun h1 => ?_)
    · have h1 := of_decide_eq_true h1
      refine Wp.region ?_
      refine OWp.evs 4 rfl ?_
      refine OWp.nil ?_
      exact ⟨(y0, x0), ⟨by simp only; omega, by simp only; omega⟩, .cons rfl (.cons rfl (.cons rfl (.cons rfl (.nil _)))), .refl _⟩
    have h1 := of_decide_eq_false h1
    refine Wp.skip ?_
    exact ⟨(x0, y0), ⟨by simp only; omega, by simp only; omega⟩, .cons rfl (.cons rfl (.cons rfl (.cons rfl (.nil _)))), .refl _⟩
  rintro ⟨x, y⟩ ⟨hxy, hy⟩
  simp only at hxy hy ⊢
  refine Wp.seq (Wp.region ?_)
  refine OWp.evs 3 rfl ?_
  refine OWp.step rfl (Step.call rfl rfl rfl rfl rfl rfl ((of_yes (mean := m) (most := o) (u := x) (by omega) (by omega) (by omega) ?_)))
  refine OWp.evs 5 rfl ?_
  refine OWp.nil ?_
  refine Wp.seq (Wp.region ?_)
  refine OWp.evs 3 rfl ?_
  refine OWp.step rfl (Step.call rfl rfl rfl rfl rfl rfl ((of_yes (mean := m) (most := o) (u := y) (by omega) (by omega) (by omega) ?_)))
  have eo1 := wrap_add1 o (by unfold lim; omega)
  have em1 := wrap_add1 m (by unfold lim; omega)
  refine OWp.evs 5 rfl ?_
  refine OWp.nil ?_
  refine Wp.seq (Wp.region ?_)
  refine OWp.evs 4 rfl ?_
  refine OWp.step rfl (Step.call rfl rfl rfl rfl rfl rfl ((eo1.symm ▸ of_yes (mean := m) (most := o + 1) (u := x) (by omega) (by omega) (by omega) ?_)))
  refine OWp.evs 5 rfl ?_
  refine OWp.nil ?_
  refine Wp.seq (Wp.region ?_)
  refine OWp.evs 4 rfl ?_
  refine OWp.step rfl (Step.call rfl rfl rfl rfl rfl rfl ((em1.symm ▸ of_yes (mean := m + 1) (most := o) (u := x) (by omega) (by omega) (by omega) ?_)))
  have f1 := dl_word (m := m) hxy o
  have f2 := dl_most m x o
  have f3 := dl_mean m x o
  have f4 := dl_le m x o
  have f5 := dl_le m x (o + 1)
  refine OWp.evs 5 rfl ?_
  refine OWp.nil ?_
  refine Wp.seq (Wp.region ?_)
  refine OWp.evs 3 rfl ?_
  refine OWp.evs 4 rfl ?_
  refine OWp.evs 4 rfl ?_
  refine OWp.evs 4 rfl ?_
  refine OWp.evs 5 rfl ?_
  refine OWp.part 93 rfl (fun cc1 => ?_) (fun cc1 => absurd (of_decide_eq_false cc1) (by omega))
  have cc1 := of_decide_eq_true cc1
  refine OWp.evs 5 rfl ?_
  refine OWp.part 98 rfl (fun cc2 => ?_) (fun cc2 => absurd (of_decide_eq_false cc2) (by omega))
  have cc2 := of_decide_eq_true cc2
  refine OWp.evs 5 rfl ?_
  refine OWp.part 103 rfl (fun cc3 => ?_) (fun cc3 => absurd (of_decide_eq_false cc3) (by omega))
  have cc3 := of_decide_eq_true cc3
  refine OWp.evs 5 rfl ?_
  refine OWp.part 108 rfl (fun cc4 => ?_) (fun cc4 => absurd (of_decide_eq_false cc4) (by omega))
  have cc4 := of_decide_eq_true cc4
  refine OWp.evs 4 rfl ?_
  refine OWp.part 112 rfl (fun cc5 => ?_) (fun cc5 => absurd (of_decide_eq_false cc5) (by omega))
  have cc5 := of_decide_eq_true cc5
  refine OWp.evs 4 rfl ?_
  refine OWp.part 116 rfl (fun cc6 => ?_) (fun cc6 => absurd (of_decide_eq_false cc6) (by omega))
  have cc6 := of_decide_eq_true cc6
  refine OWp.evs 6 rfl ?_
  refine OWp.nil ?_
  refine Wp.ret ⟨trivial, _, ⟨_, _, rfl, rfl, rfl⟩, ?_⟩
  rw [eo1, decide_eq_true (by omega)]
  rfl
theorem delayFallsW {mean most : Int} {z : Array Value} (_h0 : Rd Try.prog S 3 [.int .i64 mean]) (_h1 : Rd Try.prog S 3 [.int .i64 most]) (h2 : Rd Try.prog S 56 z.toList) :
    CallWp Try.prog B 9 #[.int .i64 mean, .int .i64 most, .agg z] (fun v _ => v = .bool true) S := by
  obtain ⟨hl, hf⟩ := h2.open_struct Try.underlying56
  obtain ⟨a, ha, wa⟩ := (hf _ (List.mem_cons_self)).open_int Try.underlying3
  obtain ⟨b, hb, wb⟩ := (hf _ (List.mem_cons_of_mem _ List.mem_cons_self)).open_int Try.underlying3
  obtain ⟨z⟩ := z
  have e : z = [.int .i64 a, .int .i64 b] := by
    match z, hl with
    | [x, y], _ =>
      cases ha
      cases hb
      rfl
  subst e
  exact delayFallsL
end
end Go.Proofs.C
