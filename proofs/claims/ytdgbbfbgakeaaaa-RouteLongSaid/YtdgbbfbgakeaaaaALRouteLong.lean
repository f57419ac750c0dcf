/- What functions of the given program do, one after the other, told by that layer. -/
import Derived.Test.YtdgbbfbgakeaaaaARoute6
namespace Go.Proofs.C
open Go.Lg
set_option maxRecDepth 100000
theorem hopB_tail {x : Hop} (h : hopP x) : (hopB x).drop 20 = [0, 0, 0, 0] := by
  have hl : x.id.length = 0 ∨ x.id.length = 16 := by unfold hopP at h; omega
  unfold hopB
  show (x.id ++ List.replicate (20 - x.id.length) 0).drop 16 = _
  rcases hl with e | e
  · rw [nil_len.2 e]; rfl
  · rw [List.drop_append_of_le_length (by omega), List.drop_of_length_le (by omega), e]; rfl
section
variable {B : Nat} {S R : Ents}

theorem routeLongL {x y : Hop} : CallWp Try.prog B 14 #[.agg x.cells.toArray, .agg y.cells.toArray] (fun v _ => v = .bool true) S := by
  have hk : hopP x → 1 ≤ x.kind ∧ x.kind ≤ 4 := fun h => by unfold hopP at h; omega
  refine CallWp.enter (args := [_, _]) Try.func14 rfl Try.ntmps14 rfl ?_
  refine Wp.seq (Wp.region ?_)
  refine OWp.step rfl (Step.box rfl rfl rfl ?_); intro L2 hBL2 hLL2
  refine OWp.step rfl (Step.box rfl rfl rfl ?_); intro L3 hBL3 hLL3
  refine OWp.evs 1 rfl ?_
  refine OWp.nil ?_
  refine Wp.seq ?_
  refine Wp.seq (Wp.region ?_)
  refine OWp.step rfl (Step.call rfl rfl rfl rfl rfl rfl ((rworks ?_)))
  refine OWp.evs 1 rfl ?_
  refine OWp.nil ?_
  refine Wp.cond rfl (fun c => nomatch c) (fun _ => ?_)
  refine Wp.skip ?_
  refine Wp.seq (Wp.region ?_)
  refine OWp.load (.tail _ (.head _)) rfl rfl rfl rfl (partAt_agg (n := 5) (r := x.cells) rfl rfl rfl rfl) ?_
  by_cases hx : hopP x
  · skip
    have hk := hk hx
    refine OWp.step rfl (Step.call rfl rfl rfl rfl rfl rfl ((encode_yes hx ?_)))
    refine OWp.evs 5 rfl ?_
    refine OWp.nil ?_
    refine Wp.seq (Wp.region ?_)
    refine OWp.load (.head _) rfl rfl rfl rfl (partAt_agg (n := 5) (r := y.cells) rfl rfl rfl rfl) ?_
    by_cases hy : hopP y
    · skip
      refine OWp.step rfl (Step.call rfl rfl rfl rfl rfl rfl ((encode_yes hy ?_)))
      refine OWp.evs 5 rfl ?_
      refine OWp.nil ?_
      refine Wp.seq ?_
      refine Wp.seq (Wp.region ?_)
      refine OWp.evs 3 rfl ?_
      refine OWp.evs 3 rfl ?_
      refine OWp.nil ?_
      refine Wp.cond rfl (fun c => nomatch c) (fun _ => ?_)
      refine Wp.skip ?_
      refine Wp.seq (Wp.regionDraw [0, 1, 2, 3, 4, 5, 6, 7, 8, 9, 10, 11, 12, 13, 14, 15, 16, 17, 18, 19, 20, 21, 22, 23, 24, 25] [] rfl (by decide +kernel) ?_)
      refine DWp.evs 4 rfl ?_
      refine DWp.part 30 rfl (fun cc1 => ?_) (fun cc1 => absurd (of_decide_eq_false cc1) (by rw [hopB_len hx]; simp))
      have cc1 := of_decide_eq_true cc1
      refine DWp.evs 1 rfl ?_
      refine DWp.g rfl rfl rfl rfl (Gives.indexStr (b := u8 x.kind) rfl rfl rfl rfl (by decide) rfl) ?_
      refine DWp.evs 2 rfl ?_
      first | refine DWp.load (List.Mem.head _) rfl rfl rfl rfl rfl rfl rfl ?_ | refine DWp.load (List.Mem.tail _ (List.Mem.head _)) rfl rfl rfl rfl rfl rfl rfl ?_ | refine DWp.load (List.Mem.tail _ (List.Mem.tail _ (List.Mem.head _))) rfl rfl rfl rfl rfl rfl rfl ?_ | refine DWp.load (List.Mem.tail _ (List.Mem.tail _ (List.Mem.tail _ (List.Mem.head _)))) rfl rfl rfl rfl rfl rfl rfl ?_ | refine DWp.load (List.Mem.tail _ (List.Mem.tail _ (List.Mem.tail _ (List.Mem.tail _ (List.Mem.head _))))) rfl rfl rfl rfl rfl rfl rfl ?_ | refine DWp.load (List.Mem.tail _ (List.Mem.tail _ (List.Mem.tail _ (List.Mem.tail _ (List.Mem.tail _ (List.Mem.head _)))))) rfl rfl rfl rfl rfl rfl rfl ?_
      refine DWp.evs 3 rfl ?_
      refine DWp.part 38 rfl (fun cc2 => ?_) (fun cc2 => absurd (of_decide_eq_false cc2) (by rw [wrap_u8i, u8_nat (by omega) (by omega)]; simp))
      have cc2 := of_decide_eq_true cc2
      refine DWp.evs 1 rfl ?_
      refine DWp.g rfl rfl rfl rfl (Gives.sliceStr (l := 20) (h' := (hopB x).length) rfl rfl rfl ⟨_, _, rfl, rfl⟩ rfl (by rw [hopB_len hx]; decide) (by omega)) ?_
      refine DWp.evs 3 rfl ?_
      refine DWp.part 43 rfl (fun cc3 => ?_) (fun cc3 => absurd (of_decide_eq_false cc3) (by rw [hopB_tail hx, hopB_len hx]; decide))
      have cc3 := of_decide_eq_true cc3
      refine DWp.evs 3 rfl ?_
      refine DWp.load (.tail _ (.head _)) rfl rfl rfl rfl rfl rfl (partAt_agg (n := 5) (r := x.cells) rfl rfl rfl rfl) ?_
      refine DWp.load (.head _) rfl rfl rfl rfl rfl rfl (partAt_agg (n := 5) (r := y.cells) rfl rfl rfl rfl) ?_
      refine DWp.g rfl rfl rfl rfl (Gives.eqStruct (r := eqHop x y) 10 rfl rfl rfl rfl hopG (by rfl)) ?_
      refine DWp.evs 3 rfl ?_
      refine DWp.nil ?_
      refine Wp.ret ⟨trivial, _, ⟨_, _, rfl, rfl, rfl⟩, ?_⟩
      by_cases e : x = y
      · subst e; rw [eqHop_iff.2 rfl, decide_eq_true rfl]; rfl
      · rw [decide_eq_false (fun h => e (hopB_inj hx hy h)), Bool.eq_false_iff.2 (fun h => e (eqHop_iff.1 h))]; rfl
    refine OWp.step rfl (Step.call rfl rfl rfl rfl rfl rfl ((encode_no hy ?_)))
    refine OWp.evs 5 rfl ?_
    refine OWp.nil ?_
    refine Wp.seq ?_
    refine Wp.seq (Wp.region ?_)
    refine OWp.evs 3 rfl ?_
    refine OWp.evs 3 rfl ?_
    refine OWp.nil ?_
    refine Wp.cond rfl (fun _ => ?_) (fun c => nomatch c)
    refine Wp.seq (Wp.region ?_)
    refine OWp.evs 1 rfl ?_
    refine OWp.nil ?_
    refine Wp.ret ⟨trivial, _, ⟨_, _, rfl, rfl, rfl⟩, ?_⟩
    rfl
  refine OWp.step rfl (Step.call rfl rfl rfl rfl rfl rfl ((encode_no hx ?_)))
  refine OWp.evs 5 rfl ?_
  refine OWp.nil ?_
  refine Wp.seq (Wp.region ?_)
  refine OWp.load (.head _) rfl rfl rfl rfl (partAt_agg (n := 5) (r := y.cells) rfl rfl rfl rfl) ?_
  refine OWp.step rfl (Step.call rfl rfl rfl rfl rfl rfl ((encodeC ?_)))
  refine OWp.evs 5 rfl ?_
  refine OWp.nil ?_
  refine Wp.seq ?_
  refine Wp.seq (Wp.region ?_)
  refine OWp.evs 3 rfl ?_
  refine OWp.evs 3 rfl ?_
  refine OWp.nil ?_
  refine Wp.cond rfl (fun _ => ?_) (fun c => nomatch c)
  refine Wp.seq (Wp.region ?_)
  refine OWp.evs 1 rfl ?_
  refine OWp.nil ?_
  refine Wp.ret ⟨trivial, _, ⟨_, _, rfl, rfl, rfl⟩, ?_⟩
  rfl
theorem routeLongW {z1 z2 : Array Value} (h1 : Rd Try.prog S 63 z1.toList) (h2 : Rd Try.prog S 63 z2.toList) : CallWp Try.prog B 14 #[.agg z1, .agg z2] (fun v _ => v = .bool true) S := by
  obtain ⟨x, rfl, _⟩ := rdHop h1
  obtain ⟨y, rfl, _⟩ := rdHop h2
  exact routeLongL
end
end Go.Proofs.C
