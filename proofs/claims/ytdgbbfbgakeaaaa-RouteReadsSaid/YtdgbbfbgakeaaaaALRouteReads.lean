/- What functions of the given program do, one after the other, told by that layer. -/
import Derived.Test.YtdgbbfbgakeaaaaARoute6
namespace Go.Proofs.C
open Go.Lg
set_option maxRecDepth 100000
section
variable {B : Nat} {S R : Ents}

theorem routeReadsL {b : List UInt8} : CallWp Try.prog B 15 #[.string (str b)] (fun v _ => v = .bool true) S := by
  obtain ⟨y, e, h1, h2, _⟩ := decode_both b
  have hy : eqHop y y = true := eqHop_iff.2 rfl
  refine CallWp.enter (args := [_]) Try.func15 rfl Try.ntmps15 rfl ?_
  refine Wp.seq (Wp.region ?_)
  refine OWp.evs 1 rfl ?_
  refine OWp.nil ?_
  refine Wp.seq (Wp.region ?_)
  refine OWp.evs 1 rfl ?_
  refine OWp.step rfl (Step.call rfl rfl rfl rfl rfl rfl ((h1 _ _ _ ?_)))
  refine OWp.evs 3 rfl ?_
  refine OWp.step rfl (Step.alloc rfl rfl rfl ?_); intro L3 hBL3 hLL3
  refine OWp.step rfl (Step.storeAs 0 (y.cells) rfl rfl rfl rfl rfl (by assumption) rfl (Unfz.zero _) rfl (Nat.le_of_ble_eq_true rfl) rfl rfl ?_)
  refine OWp.evs 1 rfl ?_
  refine OWp.nil ?_
  refine Wp.seq (Wp.region ?_)
  refine OWp.evs 1 rfl ?_
  refine OWp.step rfl (Step.call rfl rfl rfl rfl rfl rfl ((h2 _ _ _ ?_)))
  refine OWp.evs 3 rfl ?_
  refine OWp.step rfl (Step.alloc rfl rfl rfl ?_); intro L5 hBL5 hLL5
  refine OWp.step rfl (Step.storeAs 0 (y.cells) rfl rfl rfl rfl rfl (by assumption) rfl (Unfz.zero _) rfl (Nat.le_of_ble_eq_true rfl) rfl rfl ?_)
  refine OWp.evs 1 rfl ?_
  refine OWp.nil ?_
  refine Wp.seq (Wp.region ?_)
  refine OWp.load (.tail _ (.head _)) rfl rfl rfl rfl (partAt_agg (n := 5) (r := y.cells) rfl rfl rfl rfl) ?_
  refine OWp.load (.head _) rfl rfl rfl rfl (partAt_agg (n := 5) (r := y.cells) rfl rfl rfl rfl) ?_
  refine OWp.g rfl rfl (Gives.eqStruct (r := eqHop y y) 10 rfl rfl rfl rfl hopG (by rfl)) ?_
  rw [hy]
  refine OWp.evs 1 rfl ?_
  refine OWp.evs 5 rfl ?_
  refine OWp.part 25 rfl (fun cc1 => ?_) (fun cc1 => absurd (of_decide_eq_false cc1) (by simp))
  have cc1 := of_decide_eq_true cc1
  refine OWp.step rfl (Step.call rfl rfl rfl rfl rfl rfl ((rworks ?_)))
  refine OWp.evs 2 rfl ?_
  refine OWp.nil ?_
  refine Wp.ret ⟨trivial, _, ⟨_, _, rfl, rfl, rfl⟩, ?_⟩
  rfl
theorem routeReadsW {t : ByteArray} (h : Rd Try.prog S 9 [.string t]) : CallWp Try.prog B 15 #[.string t] (fun v _ => v = .bool true) S := by
  obtain ⟨s, rfl, _⟩ := rdStr h
  exact routeReadsL
end
end Go.Proofs.C
