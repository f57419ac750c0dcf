/- What functions of the given program do, one after the other, told by that layer. -/
import Derived.Test.YtdgbbfbgakeaaaaATape6
import Derived.Test.YtdgbbfbgakeaaaaARd
namespace Go.Proofs.C
open Go.Lg
set_option maxRecDepth 100000

/-- An act: two numbers. -/
def act (x : Int × Int) : List Value := [.int .i64 x.1, .int .i64 x.2]

theorem rdActs {S : Ents} {v : Value} (h : Rd Try.prog S 42 [v]) : ∃ zs : List (Int × Int), Reads S 2 v zs.length (zs.flatMap act) ∧ zs.length ≤ lim ∧ ∀ z ∈ zs, (Lit.int .i64 z.1).wf = true ∧ (Lit.int .i64 z.2).wf = true := by
  obtain ⟨zs, hr, hw, _, hp⟩ := h.rows (f := act) (p := fun z => (Lit.int .i64 z.1).wf = true ∧ (Lit.int .i64 z.2).wf = true) Try.underlying42 (sz := 2) rfl (fun r hr => by
    obtain ⟨hl, hf⟩ := hr.open_struct Try.underlying45
    obtain ⟨a, ha, wa⟩ := (hf _ (List.mem_cons_self)).open_int Try.underlying3
    obtain ⟨b, hb, wb⟩ := (hf _ (List.mem_cons_of_mem _ List.mem_cons_self)).open_int Try.underlying3
    refine ⟨(a, b), ?_, wa, wb⟩
    match r, hl with
    | [x, y], _ =>
      cases ha
      cases hb
      rfl)
  refine ⟨zs, hr, ?_, hp⟩
  have : zs.length * 16 ≤ reachBytes := hw
  unfold reachBytes at this; unfold lim; omega

theorem belowR_le {s : List UInt8} {k : Nat} {n : Int} (hk : k ≤ s.length) : (belowR s k n).2.2 ≤ s.length := by
  unfold belowR
  split
  · exact hk
  split
  · simp only; omega
  · exact hk
theorem wordR_le {s : List UInt8} {k : Nat} (hk : k ≤ s.length) : (wordR s k).2.2 ≤ s.length := by
  unfold wordR
  split
  · simp only; omega
  · exact hk
theorem below_lt {s : List UInt8} {k n : Nat} (hn : 0 < n) : (belowR s k (n : Int)).1 < n := by
  unfold belowR
  split
  · exact hn
  split
  · exact Nat.div_lt_of_lt_mul (by
      have := be4_lt (s.drop k)
      show word s k * n < _
      exact Nat.mul_lt_mul_of_pos_right this hn)
  · exact hn

section
variable {B : Nat} {S : Ents}

set_option maxHeartbeats 2000000 in
theorem tapeForksL {s : List UInt8} {a : Option Addr} {len cap : Nat} {zs : List (Int × Int)} (hs : s.length ≤ lim)
    (hr : Reads S 2 (.slice a len cap) zs.length (zs.flatMap act)) :
    CallWp Try.prog B 5 #[.string (str s), .slice a len cap] (fun v _ => v = .bool true) S := by
  obtain rfl := hr.len
  refine CallWp.enter (args := [_, _]) Try.func5 rfl Try.ntmps5 rfl ?_
  refine Wp.seq (Wp.region ?_)
  refine OWp.evs 1 rfl ?_
  refine OWp.nil ?_
  refine Wp.seq (Wp.region ?_)
  refine OWp.evs 1 rfl ?_
  refine OWp.step rfl (Step.call rfl rfl rfl rfl rfl rfl (tapeNew ?_))
  intro La hBa hLa
  refine OWp.evs 1 rfl ?_
  refine OWp.step rfl (Step.call rfl rfl rfl rfl rfl rfl (tapeNew ?_))
  intro Lb hBb hLb
  refine OWp.evs 2 rfl ?_
  refine OWp.nil ?_
  refine Wp.seq ?_
  refine Wp.seq (Wp.region ?_)
  refine OWp.evs 3 rfl ?_
  refine OWp.part 22 rfl (fun c => nomatch c) (fun _ => ?_)
  refine OWp.evs 4 rfl ?_
  refine OWp.part 26 rfl (fun c => nomatch c) (fun _ => ?_)
  refine OWp.step rfl (Step.call rfl rfl rfl rfl rfl rfl (works ?_))
  refine OWp.evs 2 rfl ?_
  refine OWp.nil ?_
  refine Wp.cond rfl (fun c => nomatch c) (fun _ => ?_)
  refine Wp.skip ?_
  refine Wp.seq ?_
  refine Wp.seq (Wp.region ?_)
  refine OWp.evs 1 rfl ?_
  refine OWp.nil ?_
  refine Wp.block ?_
  refine Wp.loopS (α := Nat × Nat) (fun x => 60 - x.1) (fun x => [(7, .int .i64 (x.1 : Int)), (6, pt Lb), (5, pt La), (0, .string (str s)), (1, .slice a zs.length cap)]) (fun x => tp Lb s x.2 :: tp La s x.2 :: S)
    (fun x => x.1 ≤ zs.length ∧ x.1 ≤ 60 ∧ x.2 ≤ s.length) (0, 0) ?_ (.refl _) ⟨by simp, by simp, by simp⟩ ?_
  · exact .cons rfl (.cons rfl (.cons rfl (.cons rfl (.cons rfl (.nil _)))))
  rintro ⟨i, k⟩ ⟨hi, hi60, hk⟩
  simp only at hi hi60 hk ⊢
  refine Wp.seq ?_
  refine Wp.seq (Wp.region ?_)
  refine OWp.evs 5 rfl ?_
  refine OWp.part 34 rfl (fun c4 => ?_) (fun c4 => ?_)
  · refine OWp.evs 3 rfl ?_
    refine OWp.nil ?_
    refine Wp.cond rfl (fun c5 => ?_) (fun c5 => ?_)
    · have c4 := of_decide_eq_true c4
      have c5 := of_decide_eq_true c5
      have hlt : i < zs.length := by omega
      obtain ⟨b, o, cap', l, e, fz, hv, hm, hat⟩ := hr.elem (sz := 2) (fun x _ => rfl) (by omega)
      cases hv
      have hld : Lg.partAt Try.prog 3 l (o + i * 2 + 1) = some (.int .i64 zs[i].2) := by
        rw [partAt_in (P := Try.prog) (t := 3) (m := 1) (hat i hlt) rfl (by decide) (by decide)]
        rfl
      generalize zs[i].2 = z at hld
      refine Wp.skip ?_
      refine Wp.seq ?_
      refine Wp.block ?_
      refine Wp.seq (Wp.region ?_)
      refine OWp.evs 1 rfl ?_
      refine OWp.step rfl (Step.call rfl rfl rfl rfl rfl rfl (forkC (.tail _ (.head _)) ?_))
      intro Lf hBf hLf
      refine OWp.evs 1 rfl ?_
      refine OWp.nil ?_
      refine Wp.seq (Wp.region ?_)
      refine OWp.evs 2 rfl ?_
      refine OWp.g rfl rfl (Gives.indexAddrSlice i rfl rfl rfl rfl rfl rfl hlt) ?_
      refine OWp.evs 1 rfl ?_
      refine OWp.load (.tail _ (.tail _ (.tail _ hm))) rfl rfl rfl rfl hld ?_
      refine OWp.step rfl (Step.call rfl rfl rfl rfl rfl rfl (among (m := 1000) (by decide) (by decide) ?_))
      obtain ⟨n, hn, hn0⟩ : ∃ n : Nat, IntKind.i64.wrap (1 + z % ((1000 : Nat) : Int)) = (n : Int) ∧ 0 < n := ⟨(1 + z % 1000).toNat, by rw [i64_id (by omega) (by omega)]; omega, by omega⟩
      refine OWp.evs 2 rfl ?_
      refine OWp.nil ?_
      rw [hn]
      refine Wp.seq (Wp.region ?_)
      refine OWp.evs 2 rfl ?_
      refine OWp.step rfl (Step.call rfl rfl rfl rfl rfl rfl (CallWp.focus 2 rfl (belowC hBa hs hk ?_)))
      refine OWp.evs 5 rfl ?_
      refine OWp.nil ?_
      refine Wp.seq (Wp.region ?_)
      refine OWp.evs 2 rfl ?_
      refine OWp.step rfl (Step.call rfl rfl rfl rfl rfl rfl (CallWp.focus 1 rfl (belowC hBf hs hk ?_)))
      refine OWp.evs 5 rfl ?_
      refine OWp.nil ?_
      refine Wp.seq (Wp.region ?_)
      refine OWp.evs 2 rfl ?_
      refine OWp.step rfl (Step.call rfl rfl rfl rfl rfl rfl (CallWp.focus 2 rfl (belowC hBb hs hk ?_)))
      have hk' := belowR_le (s := s) (n := (n : Int)) hk
      have hlt' := below_lt (s := s) (k := k) hn0
      generalize hb : belowR s k (n : Int) = r at hk' hlt'
      obtain ⟨d, er, k'⟩ := r
      simp only at hk' hlt' ⊢
      refine OWp.evs 5 rfl ?_
      refine OWp.nil ?_
      refine Wp.seq ?_
      refine Wp.seq (Wp.regionDraw [0, 1, 2, 3, 4, 5, 6, 7, 8, 9, 10, 11, 12, 13, 14, 15, 16, 17, 18, 19, 20, 21, 23, 24, 25, 22, 26, 27, 28, 29, 30, 31, 32, 34, 35, 36, 33, 37, 38, 39] [22, 26, 33, 37] rfl (by decide +kernel) ?_)
      refine DWp.evs 4 rfl ?_
      refine DWp.part 70 rfl (fun c => absurd c (by simp)) (fun _ => ?_)
      refine DWp.evs 5 rfl ?_
      refine DWp.part 75 rfl (fun c => absurd c (by simp)) (fun _ => ?_)
      refine DWp.evs 5 rfl ?_
      refine DWp.part 80 rfl (fun c => absurd c (by simp)) (fun _ => ?_)
      refine DWp.evs 5 rfl ?_
      refine DWp.part 85 rfl (fun c => absurd c (by simp)) (fun _ => ?_)
      refine DWp.evs 6 rfl ?_
      refine DWp.stepAll rfl rfl rfl rfl (Step.call rfl rfl rfl rfl rfl rfl (left (by first | exact List.Mem.head _ | exact List.Mem.tail _ (List.Mem.head _) | exact List.Mem.tail _ (List.Mem.tail _ (List.Mem.head _)) | exact List.Mem.tail _ (List.Mem.tail _ (List.Mem.tail _ (List.Mem.head _))) | exact List.Mem.tail _ (List.Mem.tail _ (List.Mem.tail _ (List.Mem.tail _ (List.Mem.head _)))) | exact List.Mem.tail _ (List.Mem.tail _ (List.Mem.tail _ (List.Mem.tail _ (List.Mem.tail _ (List.Mem.head _))))) | assumption) hk' hs ?_))
      refine DWp.stepAll rfl rfl rfl rfl (Step.call rfl rfl rfl rfl rfl rfl (left (by first | exact List.Mem.head _ | exact List.Mem.tail _ (List.Mem.head _) | exact List.Mem.tail _ (List.Mem.tail _ (List.Mem.head _)) | exact List.Mem.tail _ (List.Mem.tail _ (List.Mem.tail _ (List.Mem.head _))) | exact List.Mem.tail _ (List.Mem.tail _ (List.Mem.tail _ (List.Mem.tail _ (List.Mem.head _)))) | exact List.Mem.tail _ (List.Mem.tail _ (List.Mem.tail _ (List.Mem.tail _ (List.Mem.tail _ (List.Mem.head _))))) | assumption) hk' hs ?_))
      refine DWp.evs 3 rfl ?_
      refine DWp.part 96 rfl (fun c => absurd c (by simp)) (fun _ => ?_)
      refine DWp.evs 6 rfl ?_
      refine DWp.stepAll rfl rfl rfl rfl (Step.call rfl rfl rfl rfl rfl rfl (left (by first | exact List.Mem.head _ | exact List.Mem.tail _ (List.Mem.head _) | exact List.Mem.tail _ (List.Mem.tail _ (List.Mem.head _)) | exact List.Mem.tail _ (List.Mem.tail _ (List.Mem.tail _ (List.Mem.head _))) | exact List.Mem.tail _ (List.Mem.tail _ (List.Mem.tail _ (List.Mem.tail _ (List.Mem.head _)))) | exact List.Mem.tail _ (List.Mem.tail _ (List.Mem.tail _ (List.Mem.tail _ (List.Mem.tail _ (List.Mem.head _))))) | assumption) hk' hs ?_))
      refine DWp.stepAll rfl rfl rfl rfl (Step.call rfl rfl rfl rfl rfl rfl (left (by first | exact List.Mem.head _ | exact List.Mem.tail _ (List.Mem.head _) | exact List.Mem.tail _ (List.Mem.tail _ (List.Mem.head _)) | exact List.Mem.tail _ (List.Mem.tail _ (List.Mem.tail _ (List.Mem.head _))) | exact List.Mem.tail _ (List.Mem.tail _ (List.Mem.tail _ (List.Mem.tail _ (List.Mem.head _)))) | exact List.Mem.tail _ (List.Mem.tail _ (List.Mem.tail _ (List.Mem.tail _ (List.Mem.tail _ (List.Mem.head _))))) | assumption) hk' hs ?_))
      refine DWp.evs 2 rfl ?_
      refine DWp.nil ?_
      refine Wp.cond rfl (fun c => absurd c (by simp)) (fun _ => ?_)
      refine Wp.skip ?_
      refine Wp.seq (Wp.region ?_)
      refine OWp.evs 1 rfl ?_
      refine OWp.step rfl (Step.call rfl rfl rfl rfl rfl rfl (CallWp.focus 1 rfl (wordC hBf hs hk' ?_)))
      have hk2 := wordR_le (s := s) hk'
      refine OWp.nil ?_
      refine Wp.seq (Wp.region ?_)
      refine OWp.evs 1 rfl ?_
      refine OWp.step rfl (Step.call rfl rfl rfl rfl rfl rfl (bytesC hBf hs hk2 ?_))
      refine OWp.nil ?_
      refine Wp.seq (Wp.regionDraw [0, 1, 2, 4, 5, 6, 3, 7, 8, 9, 10, 11, 12, 13, 14, 15, 16, 17] [3, 7] rfl (by decide +kernel) ?_)
      refine DWp.evs 6 rfl ?_
      refine DWp.stepAll rfl rfl rfl rfl (Step.call rfl rfl rfl rfl rfl rfl (left (by first | exact List.Mem.head _ | exact List.Mem.tail _ (List.Mem.head _) | exact List.Mem.tail _ (List.Mem.tail _ (List.Mem.head _)) | exact List.Mem.tail _ (List.Mem.tail _ (List.Mem.tail _ (List.Mem.head _))) | exact List.Mem.tail _ (List.Mem.tail _ (List.Mem.tail _ (List.Mem.tail _ (List.Mem.head _)))) | exact List.Mem.tail _ (List.Mem.tail _ (List.Mem.tail _ (List.Mem.tail _ (List.Mem.tail _ (List.Mem.head _))))) | assumption) hk' hs ?_))
      refine DWp.stepAll rfl rfl rfl rfl (Step.call rfl rfl rfl rfl rfl rfl (left (by first | exact List.Mem.head _ | exact List.Mem.tail _ (List.Mem.head _) | exact List.Mem.tail _ (List.Mem.tail _ (List.Mem.head _)) | exact List.Mem.tail _ (List.Mem.tail _ (List.Mem.tail _ (List.Mem.head _))) | exact List.Mem.tail _ (List.Mem.tail _ (List.Mem.tail _ (List.Mem.tail _ (List.Mem.head _)))) | exact List.Mem.tail _ (List.Mem.tail _ (List.Mem.tail _ (List.Mem.tail _ (List.Mem.tail _ (List.Mem.head _))))) | assumption) hk' hs ?_))
      refine DWp.evs 2 rfl ?_
      refine DWp.part 120 rfl (fun c => absurd c (by simp)) (fun _ => ?_)
      refine DWp.evs 3 rfl ?_
      refine DWp.part 123 rfl (fun _ => ?_) (fun _ => ?_)
      · refine DWp.evs 5 rfl ?_
        refine DWp.nil ?_
        refine Wp.cond rfl (fun c => absurd (of_decide_eq_true c) (by omega)) (fun _ => ?_)
        refine Wp.skip ?_
        refine Wp.region ?_
        refine OWp.evs 3 rfl ?_
        refine OWp.dropAt 0 rfl ?_
        refine OWp.nil ?_
        refine ⟨(i + 1, k'), by simp only; omega, ⟨by simp only; omega, by simp only; omega, hk'⟩, ?_, .refl _⟩
        exact .cons' rfl (int_eq (wrap_add1 i (by unfold lim; omega))) (.cons rfl (.cons rfl (.cons rfl (.cons rfl (.nil _)))))
      · refine DWp.evs 5 rfl ?_
        refine DWp.nil ?_
        refine Wp.cond rfl (fun c => nomatch c) (fun _ => ?_)
        refine Wp.skip ?_
        refine Wp.region ?_
        refine OWp.evs 3 rfl ?_
        refine OWp.dropAt 0 rfl ?_
        refine OWp.nil ?_
        refine ⟨(i + 1, k'), by simp only; omega, ⟨by simp only; omega, by simp only; omega, hk'⟩, ?_, .refl _⟩
        exact .cons' rfl (int_eq (wrap_add1 i (by unfold lim; omega))) (.cons rfl (.cons rfl (.cons rfl (.cons rfl (.nil _)))))
    · refine Wp.exit ?_
      refine Wp.seq (Wp.region ?_)
      refine OWp.evs 1 rfl ?_
      refine OWp.nil ?_
      refine Wp.ret ⟨trivial, _, ⟨_, _, rfl, rfl, rfl⟩, ?_⟩
      rfl
  · refine OWp.evs 3 rfl ?_
    refine OWp.nil ?_
    refine Wp.cond rfl (fun c => nomatch c) (fun _ => ?_)
    refine Wp.exit ?_
    refine Wp.seq (Wp.region ?_)
    refine OWp.evs 1 rfl ?_
    refine OWp.nil ?_
    refine Wp.ret ⟨trivial, _, ⟨_, _, rfl, rfl, rfl⟩, ?_⟩
    rfl

theorem tapeForksW {t : ByteArray} {a : Option Addr} {len cap : Nat} (h0 : Rd Try.prog S 9 [.string t]) (h1 : Rd Try.prog S 42 [.slice a len cap]) :
    CallWp Try.prog B 5 #[.string t, .slice a len cap] (fun v _ => v = .bool true) S := by
  obtain ⟨s, hs, hl⟩ := rdStr h0
  cases hs
  obtain ⟨zs, hz, _⟩ := rdActs h1
  exact tapeForksL hl hz
end
end Go.Proofs.C
