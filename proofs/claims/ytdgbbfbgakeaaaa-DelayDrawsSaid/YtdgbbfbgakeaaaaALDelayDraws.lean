/- What functions of the given program do, one after the other, told by that layer. -/
import Derived.Test.YtdgbbfbgakeaaaaADelay4
import Derived.Test.YtdgbbfbgakeaaaaARd
namespace Go.Proofs.C
open Go.Lg
set_option maxRecDepth 100000
section
variable {B : Nat} {S R : Ents} {s : List UInt8}
theorem draw_nil {Q : Value → Ents → Prop} (h : Q (.tuple #[.int .i64 0, .int .i64 120]) S) : CallWp Try.prog B 53 #[.pointer none, .int .i64 1, .int .i64 1] Q S := by
  refine CallWp.enter (args := [_, _, _]) Try.func53 rfl Try.ntmps53 rfl ?_
  refine Wp.seq (Wp.region ?_)
  refine OWp.evs 2 rfl ?_
  refine OWp.nil ?_
  refine Wp.seq (Wp.region ?_)
  refine OWp.evs 3 rfl ?_
  refine OWp.step rfl (Step.buildSlice rfl rfl rfl ?_); intro L hBL hLL
  refine OWp.step rfl (Step.call rfl rfl rfl rfl rfl rfl ((sev_nil (l := [1]) (Reads.row (k := 1) (sz := 1) (.head _) (Nat.le_refl 1)) (by decide) (by decide) ?_)))
  refine OWp.evs 5 rfl ?_
  refine OWp.nil ?_
  refine Wp.seq ?_
  refine Wp.seq (Wp.region ?_)
  refine OWp.evs 2 rfl ?_
  refine OWp.nil ?_
  refine Wp.cond rfl (fun _ => ?_) (fun c => nomatch c)
  refine Wp.drop (S' := S) (by repeat (first | exact List.Sublist.refl _ | exact List.sublist_append_right _ _ | apply List.Sublist.cons)) ?_
  refine Wp.seq (Wp.region ?_)
  refine OWp.evs 3 rfl ?_
  refine OWp.nil ?_
  refine Wp.ret ⟨trivial, _, ⟨_, _, rfl, rfl, _, _, rfl, rfl, rfl⟩, ?_⟩
  exact h
set_option maxHeartbeats 1000000 in
theorem delayDrawsL {most : Int} {a : Option Addr} {len cap n : Nat} {l : List Int} (hs : s.length ≤ lim) (hl : Reads S 1 (.slice a len cap) n (zi l)) (hn : n ≤ 17592186044400) :
    CallWp Try.prog B 17 #[.string (str s), .int .i64 most, .slice a len cap] (fun v _ => v = .bool true) S := by
  obtain rfl := hl.len
  have e1 : l.length = len := by have := hl.1; rw [zi_length] at this; omega
  have hn' : len ≤ lim := by unfold lim; omega
  refine CallWp.enter (args := [_, _, _]) Try.func17 rfl Try.ntmps17 rfl ?_
  refine Wp.seq (Wp.region ?_)
  refine OWp.evs 1 rfl ?_
  refine OWp.nil ?_
  refine Wp.seq (Wp.region ?_)
  refine OWp.evs 1 rfl ?_
  refine OWp.step rfl (Step.call rfl rfl rfl rfl rfl rfl ((tapeNew ?_)))
  intro La hBa hLa
  refine OWp.evs 1 rfl ?_
  refine OWp.nil ?_
  refine Wp.seq ?_
  refine Wp.seq (Wp.region ?_)
  refine OWp.evs 2 rfl ?_
  refine OWp.nil ?_
  refine Wp.cond rfl (fun c => nomatch c) (fun _ => ?_)
  refine Wp.skip ?_
  refine Wp.seq (Wp.region ?_)
  refine OWp.evs 1 rfl ?_
  refine OWp.g rfl rfl (Gives.build rfl rfl) ?_
  refine OWp.step rfl (Step.box rfl rfl rfl ?_); intro Lr hBLr hLLr
  refine OWp.evs 1 rfl ?_
  refine OWp.nil ?_
  refine Wp.seq (Wp.region ?_)
  refine OWp.evs 1 rfl ?_
  refine OWp.step rfl (Step.call rfl rfl rfl rfl rfl rfl ((lendC (hl.mono fun x hx => .tail _ (.tail _ hx)) hn ?_)))
  intro b bc g hBb hcap hmx hcl
  have hrl := Reads.row (S := (b, cel (zi l ++ Value.int .i64 (-77) :: g) 3) :: rtp Lr s 0 :: S) (sz := 1) (k := len) (cap := bc) (.head _) (by rw [List.length_append, zi_length]; simp; omega)
  rw [Nat.mul_one, List.take_append_of_le_length (by rw [zi_length]; omega), List.take_of_length_le (by rw [zi_length]; omega)] at hrl
  refine OWp.evs 1 rfl ?_
  refine OWp.nil ?_
  refine Wp.seq (Wp.region ?_)
  refine OWp.evs 3 rfl ?_
  refine OWp.step rfl (Step.call rfl rfl rfl rfl rfl rfl (CallWp.focus 2 rfl ((sevC hBa hs (by omega) hrl hn' ?_))))
  intro u es hown
  refine OWp.evs 5 rfl ?_
  refine OWp.nil ?_
  refine Wp.seq (Wp.region ?_)
  refine OWp.evs 3 rfl ?_
  refine OWp.step rfl (Step.call rfl rfl rfl rfl rfl rfl (CallWp.focus 2 rfl ((rsevC (s := s) (k := 0) hBLr hs (Nat.zero_le _) (hl.mono fun x hx => .tail _ (.tail _ (List.mem_append_left _ hx))) hn' ?_))))
  intro v es2 hown2
  have hpos := sevR_pos (s := s) (most := most) (k := 0) (l := l) (by omega)
  have hlen : (sevR s most 0 l).1.length ≤ lim := by
    unfold sevR
    split
    · decide
    split
    · decide
    · rw [drawn_len]; unfold lim; omega
  refine OWp.evs 5 rfl ?_
  refine OWp.nil ?_
  refine Wp.seq ?_
  refine Wp.seq (Wp.regionDraw [0, 1, 2, 3, 4, 5, 6, 7, 8, 9, 10, 11, 12, 14, 15, 16, 17, 18, 13, 19, 20, 21, 22, 23, 24, 25, 26] [2, 13, 24] rfl (by decide +kernel) ?_)
  refine DWp.evs 2 rfl ?_
  refine DWp.stepGrow rfl rfl rfl (Step.call rfl rfl rfl rfl rfl rfl ((sameNats (l := (sevR s most 0 l).1) (k := (sevR s most 0 l).1) (hown.reads.mono fun x hx => by simp only [List.mem_cons, List.mem_append]; simp [hx]) (hown2.reads.mono fun x hx => by simp only [List.mem_cons, List.mem_append]; simp [hx]) hlen ?_)))
  refine ⟨fun _ hy => hy, ?_⟩
  rw [decide_eq_true rfl]
  refine DWp.evs 2 rfl ?_
  refine DWp.evs 5 rfl ?_
  refine DWp.part 55 rfl (fun cc1 => absurd (ndT cc1) (by simp)) (fun cc1 => ?_)
  have cc1 := ndF cc1
  refine DWp.evs 6 rfl ?_
  first | refine DWp.load (List.Mem.head _) rfl rfl rfl rfl rfl rfl rfl ?_ | refine DWp.load (List.Mem.tail _ (List.Mem.head _)) rfl rfl rfl rfl rfl rfl rfl ?_ | refine DWp.load (List.Mem.tail _ (List.Mem.tail _ (List.Mem.head _))) rfl rfl rfl rfl rfl rfl rfl ?_ | refine DWp.load (List.Mem.tail _ (List.Mem.tail _ (List.Mem.tail _ (List.Mem.head _)))) rfl rfl rfl rfl rfl rfl rfl ?_ | refine DWp.load (List.Mem.tail _ (List.Mem.tail _ (List.Mem.tail _ (List.Mem.tail _ (List.Mem.head _))))) rfl rfl rfl rfl rfl rfl rfl ?_ | refine DWp.load (List.Mem.tail _ (List.Mem.tail _ (List.Mem.tail _ (List.Mem.tail _ (List.Mem.tail _ (List.Mem.head _)))))) rfl rfl rfl rfl rfl rfl rfl ?_
  refine DWp.evs 1 rfl ?_
  refine DWp.stepGrow rfl rfl rfl (Step.call rfl rfl rfl rfl rfl rfl ((left (.tail _ (.head _)) hpos hs ?_)))
  refine ⟨fun _ hy => hy, ?_⟩
  refine DWp.evs 3 rfl ?_
  refine DWp.part 67 rfl (fun cc2 => absurd (ndT cc2) (by simp)) (fun cc2 => ?_)
  have cc2 := ndF cc2
  refine DWp.evs 2 rfl ?_
  refine DWp.stepAll rfl rfl rfl rfl (Step.call rfl rfl rfl rfl rfl rfl ((keptC (g := g) (hl.mono fun x hx => by simp only [List.mem_cons, List.mem_append]; simp [hx]) (.tail _ (.tail _ (.head _))) hn hcap ?_)))
  refine DWp.evs 2 rfl ?_
  refine DWp.nil ?_
  refine Wp.cond rfl (fun c => nomatch c) (fun _ => ?_)
  generalize (sevR s most 0 l).2.2 = k0 at hpos
  refine Wp.skip ?_
  refine Wp.seq ?_
  refine Wp.seq (Wp.region ?_)
  refine OWp.evs 1 rfl ?_
  refine OWp.nil ?_
  refine Wp.block ?_
  refine Wp.loopS (α := Nat × Nat) (fun x => 10 - x.1) (fun x => [(14, .int .i64 (x.1 : Int)), (7, pt La), (8, pt Lr), (1, .int .i64 most), (2, .slice a len cap)]) (fun x => rtp Lr s x.2 :: tp La s x.2 :: (b, cel (zi l ++ Value.int .i64 (-77) :: g) 3) :: ((S ++ es) ++ es2)) (fun x => x.1 ≤ 10 ∧ x.2 ≤ s.length) (0, k0) ?_ (.refl _) ⟨by simp, hpos⟩ ?_
  · exact .cons rfl (.cons rfl (.cons rfl (.cons rfl (.cons rfl (.nil _)))))
  rintro ⟨i, k⟩ ⟨hi, hk⟩
  simp only at hi hk ⊢
  refine Wp.seq ?_
  refine Wp.seq (Wp.region ?_)
  refine OWp.evs 5 rfl ?_
  refine OWp.part 77 rfl (fun h1 => ?_) (fun h1 => ?_)
  · have h1 := of_decide_eq_true h1
    refine OWp.evs 3 rfl ?_
    refine OWp.nil ?_
    refine Wp.cond rfl (fun h2 => ?_) (fun h2 => ?_)
    · have h2 := of_decide_eq_true h2
      have hlt : i < len := by omega
      obtain ⟨b1, o1, c1, l1, t1, f1, hv1, hm1, _, hg1⟩ := hl.get1 (by omega)
      cases hv1
      have x1 : l[i]? = some l[i] := by simp
      have hp2 := drawR_pos (mean := l[i]) (most := most) hk
      refine Wp.skip ?_
      refine Wp.seq ?_
      refine Wp.block ?_
      refine Wp.seq (Wp.region ?_)
      refine OWp.evs 3 rfl ?_
      refine OWp.g rfl rfl (Gives.indexAddrSlice (i) rfl rfl rfl rfl rfl rfl (by omega)) ?_
      refine OWp.load (.tail _ (.tail _ (.tail _ (List.mem_append_left _ (List.mem_append_left _ hm1))))) rfl rfl rfl rfl ((hg1 i hlt).trans (zi_get x1)) ?_
      refine OWp.evs 1 rfl ?_
      refine OWp.step rfl (Step.call rfl rfl rfl rfl rfl rfl (CallWp.focus 1 rfl ((drawC hBa hs hk ?_))))
      refine OWp.evs 5 rfl ?_
      refine OWp.nil ?_
      refine Wp.seq (Wp.region ?_)
      refine OWp.evs 3 rfl ?_
      refine OWp.g rfl rfl (Gives.indexAddrSlice (i) rfl rfl rfl rfl rfl rfl (by omega)) ?_
      refine OWp.load (.tail _ (.tail _ (.tail _ (List.mem_append_left _ (List.mem_append_left _ hm1))))) rfl rfl rfl rfl ((hg1 i hlt).trans (zi_get x1)) ?_
      refine OWp.evs 1 rfl ?_
      refine OWp.step rfl (Step.call rfl rfl rfl rfl rfl rfl (CallWp.focus 1 rfl ((rdrawC hBLr hs hk ?_))))
      refine OWp.evs 5 rfl ?_
      refine OWp.nil ?_
      refine Wp.seq (Wp.regionDraw [0, 1, 2, 3, 4, 5, 6, 7, 8, 9, 10, 11, 13, 14, 15, 16, 17, 12, 18, 19] [12] rfl (by decide +kernel) ?_)
      refine DWp.evs 4 rfl ?_
      refine DWp.part 106 rfl (fun cc3 => absurd (ndT cc3) (by simp)) (fun cc3 => ?_)
      have cc3 := ndF cc3
      refine DWp.evs 5 rfl ?_
      refine DWp.part 111 rfl (fun cc4 => absurd (ndT cc4) (by simp)) (fun cc4 => ?_)
      have cc4 := ndF cc4
      refine DWp.evs 6 rfl ?_
      first | refine DWp.load (List.Mem.head _) rfl rfl rfl rfl rfl rfl rfl ?_ | refine DWp.load (List.Mem.tail _ (List.Mem.head _)) rfl rfl rfl rfl rfl rfl rfl ?_ | refine DWp.load (List.Mem.tail _ (List.Mem.tail _ (List.Mem.head _))) rfl rfl rfl rfl rfl rfl rfl ?_ | refine DWp.load (List.Mem.tail _ (List.Mem.tail _ (List.Mem.tail _ (List.Mem.head _)))) rfl rfl rfl rfl rfl rfl rfl ?_ | refine DWp.load (List.Mem.tail _ (List.Mem.tail _ (List.Mem.tail _ (List.Mem.tail _ (List.Mem.head _))))) rfl rfl rfl rfl rfl rfl rfl ?_ | refine DWp.load (List.Mem.tail _ (List.Mem.tail _ (List.Mem.tail _ (List.Mem.tail _ (List.Mem.tail _ (List.Mem.head _)))))) rfl rfl rfl rfl rfl rfl rfl ?_
      refine DWp.evs 1 rfl ?_
      refine DWp.stepGrow rfl rfl rfl (Step.call rfl rfl rfl rfl rfl rfl ((left (.tail _ (.head _)) hp2 hs ?_)))
      refine ⟨fun _ hy => hy, ?_⟩
      refine DWp.evs 2 rfl ?_
      refine DWp.nil ?_
      refine Wp.cond rfl (fun cc5 => absurd (ndT cc5) (by simp)) (fun cc5 => ?_)
      have cc5 := ndF cc5
      refine Wp.skip ?_
      refine Wp.region ?_
      refine OWp.evs 3 rfl ?_
      refine OWp.nil ?_
      refine ⟨(i + 1, (drawR s l[i] most k).2.2), by simp only; omega, ⟨by simp only; omega, hp2⟩, ?_, .refl _⟩
      exact .cons' rfl (int_eq (wrap_add1 i (by unfold lim; omega))) (.cons rfl (.cons rfl (.cons rfl (.cons rfl (.nil _)))))
    have h2 := of_decide_eq_false h2
    refine Wp.exit ?_
    refine Wp.seq (Wp.region ?_)
    refine OWp.step rfl (Step.call rfl rfl rfl rfl rfl rfl ((draw_nil ?_)))
    refine OWp.evs 5 rfl ?_
    refine OWp.nil ?_
    refine Wp.seq (Wp.region ?_)
    refine OWp.step rfl (Step.buildSlice rfl rfl rfl ?_); intro L5 hBL5 hLL5
    refine OWp.step rfl (Step.call rfl rfl rfl rfl rfl rfl ((sev_nil (l := [1]) (Reads.row (k := 1) (sz := 1) (.head _) (Nat.le_refl 1)) (by decide) (by decide) ?_)))
    refine OWp.evs 5 rfl ?_
    refine OWp.nil ?_
    refine Wp.seq (Wp.region ?_)
    refine OWp.evs 3 rfl ?_
    refine OWp.evs 4 rfl ?_
    refine OWp.step rfl (Step.call rfl rfl rfl rfl rfl rfl ((dworks ?_)))
    refine OWp.evs 2 rfl ?_
    refine OWp.nil ?_
    refine Wp.ret ⟨trivial, _, ⟨_, _, rfl, rfl, rfl⟩, ?_⟩
    rfl
  have h1 := of_decide_eq_false h1
  refine OWp.evs 3 rfl ?_
  refine OWp.nil ?_
  refine Wp.cond rfl (fun c => nomatch c) (fun _ => ?_)
  refine Wp.exit ?_
  refine Wp.seq (Wp.region ?_)
  refine OWp.step rfl (Step.call rfl rfl rfl rfl rfl rfl ((draw_nil ?_)))
  refine OWp.evs 5 rfl ?_
  refine OWp.nil ?_
  refine Wp.seq (Wp.region ?_)
  refine OWp.step rfl (Step.buildSlice rfl rfl rfl ?_); intro L5 hBL5 hLL5
  refine OWp.step rfl (Step.call rfl rfl rfl rfl rfl rfl ((sev_nil (l := [1]) (Reads.row (k := 1) (sz := 1) (.head _) (Nat.le_refl 1)) (by decide) (by decide) ?_)))
  refine OWp.evs 5 rfl ?_
  refine OWp.nil ?_
  refine Wp.seq (Wp.region ?_)
  refine OWp.evs 3 rfl ?_
  refine OWp.evs 4 rfl ?_
  refine OWp.step rfl (Step.call rfl rfl rfl rfl rfl rfl ((dworks ?_)))
  refine OWp.evs 2 rfl ?_
  refine OWp.nil ?_
  refine Wp.ret ⟨trivial, _, ⟨_, _, rfl, rfl, rfl⟩, ?_⟩
  rfl
theorem delayDrawsW {t : ByteArray} {most : Int} {a : Option Addr} {len cap : Nat} (h0 : Rd Try.prog S 9 [.string t]) (_h1 : Rd Try.prog S 3 [.int .i64 most]) (h2 : Rd Try.prog S 28 [.slice a len cap]) :
    CallWp Try.prog B 17 #[.string t, .int .i64 most, .slice a len cap] (fun v _ => v = .bool true) S := by
  obtain ⟨s, hs, hl⟩ := rdStr h0
  cases hs
  obtain ⟨zs, hz, hw, _, _⟩ := h2.rows (f := fun z : Int => [.int .i64 z]) (p := fun z => (Lit.int .i64 z).wf = true) Try.underlying28 (sz := 1) rfl (fun r hr => by
    obtain ⟨n, rfl, hn⟩ := hr.open_int Try.underlying3
    exact ⟨n, rfl, hn⟩)
  rw [zi_flat] at hz
  have : zs.length * 8 ≤ reachBytes := hw
  unfold reachBytes at this
  exact delayDrawsL hl hz (by omega)
end
end Go.Proofs.C
