/- What functions of the given program do, one after the other, told by that layer. -/
import Derived.Test.YtdgbbfbgakeaaaaARoute6
namespace Go.Proofs.C
open Go.Lg
set_option maxRecDepth 100000
section
variable {B : Nat} {S R : Ents}

theorem routeBytesL {x : Hop} : CallWp Try.prog B 11 #[.agg x.cells.toArray] (fun v _ => v = .bool true) S := by
  refine CallWp.enter (args := [_]) Try.func11 rfl Try.ntmps11 rfl ?_
  refine Wp.seq (Wp.region ?_)
  refine OWp.step rfl (Step.box rfl rfl rfl ?_); intro L1 hBL1 hLL1
  refine OWp.evs 1 rfl ?_
  refine OWp.nil ?_
  refine Wp.seq (Wp.region ?_)
  refine OWp.load (.head _) rfl rfl rfl rfl (partAt_agg (n := 5) (r := x.cells) rfl rfl rfl rfl) ?_
  refine OWp.step rfl (Step.call rfl rfl rfl rfl rfl rfl ((encodeC ?_)))
  refine OWp.evs 5 rfl ?_
  refine OWp.nil ?_
  refine Wp.seq (Wp.region ?_)
  refine OWp.load (.head _) rfl rfl rfl rfl (partAt_agg (n := 5) (r := x.cells) rfl rfl rfl rfl) ?_
  refine OWp.step rfl (Step.call rfl rfl rfl rfl rfl rfl ((rencodeC ?_)))
  refine OWp.evs 5 rfl ?_
  refine OWp.nil ?_
  refine Wp.seq (Wp.regionDraw [0, 1, 2, 3, 4, 5, 6, 7, 8, 9, 10, 11, 13, 12, 14, 15, 16, 17, 18, 19, 20] [12, 14, 18] rfl (by decide +kernel) ?_)
  refine DWp.evs 6 rfl ?_
  refine DWp.part 22 rfl (fun cc1 => ?_) (fun cc1 => absurd (of_decide_eq_false cc1) (by simp))
  have cc1 := of_decide_eq_true cc1
  refine DWp.evs 5 rfl ?_
  refine DWp.part 27 rfl (fun cc2 => ?_) (fun cc2 => absurd (of_decide_eq_false cc2) (by simp))
  have cc2 := of_decide_eq_true cc2
  refine DWp.load (.head _) rfl rfl rfl rfl rfl rfl (partAt_agg (n := 5) (r := x.cells) rfl rfl rfl rfl) ?_
  refine DWp.load (.head _) rfl rfl rfl rfl rfl rfl (partAt_agg (n := 5) (r := x.cells) rfl rfl rfl rfl) ?_
  refine DWp.stepGrow rfl rfl rfl (Step.call rfl rfl rfl rfl rfl rfl ((checkC ?_)))
  refine ⟨fun _ hy => hy, ?_⟩
  refine DWp.stepGrow rfl rfl rfl (Step.call rfl rfl rfl rfl rfl rfl ((rcheckC ?_)))
  refine ⟨fun _ hy => hy, ?_⟩
  refine DWp.evs 3 rfl ?_
  refine DWp.part 34 rfl (fun cc3 => ?_) (fun cc3 => absurd (of_decide_eq_false cc3) (by simp))
  have cc3 := of_decide_eq_true cc3
  refine DWp.stepAll rfl rfl rfl rfl (Step.call rfl rfl rfl rfl rfl rfl ((rworks ?_)))
  refine DWp.evs 2 rfl ?_
  refine DWp.nil ?_
  refine Wp.ret ⟨trivial, _, ⟨_, _, rfl, rfl, rfl⟩, ?_⟩
  rfl
theorem routeBytesW {z : Array Value} (h : Rd Try.prog S 63 z.toList) : CallWp Try.prog B 11 #[.agg z] (fun v _ => v = .bool true) S := by
  obtain ⟨x, rfl, _⟩ := rdHop h
  exact routeBytesL
end
end Go.Proofs.C
