/- What functions of the given program do, one after the other, told by that layer. -/
import Derived.Test.YtfimmdafjalonaaDoorBLaw0
import Derived.Test.YtfimmdafjalonaaDoorBRef8
namespace Go.Proofs.D
open Go.Lg Go.Sha
set_option maxRecDepth 100000
section
variable {B : Nat} {S : Ents}
theorem wideUnwrapsL {key block : List UInt8} (hk : KsIn S) (h1 : key.length + 5000 ≤ big) :
    CallWp Tryd.prog B 5 #[.string (str key), .string (str block)] (fun v _ => v = .bool true) S := by
  obtain ⟨x, hx⟩ : ∃ x, x = unwrapR key block := ⟨_, rfl⟩
  refine CallWp.enter (args := [_, _]) Tryd.func5 rfl Tryd.ntmps5 rfl ?_
  refine Wp.seq (Wp.region ?_)
  refine OWp.evs 1 rfl ?_
  refine OWp.nil ?_
  refine Wp.seq (Wp.region ?_)
  refine OWp.evs 2 rfl ?_
  refine OWp.step rfl (Step.call rfl rfl rfl rfl rfl rfl ((wunwrapC hk (by omega) ?_)))
  rw [← hx]
  refine OWp.evs 5 rfl ?_
  refine OWp.nil ?_
  refine Wp.seq (Wp.region ?_)
  refine OWp.evs 2 rfl ?_
  refine OWp.step rfl (Step.call rfl rfl rfl rfl rfl rfl ((runwrapC (by omega) ?_)))
  rw [← hx]
  refine OWp.evs 5 rfl ?_
  refine OWp.nil ?_
  refine Wp.seq (Wp.region ?_)
  refine OWp.evs 4 rfl ?_
  refine OWp.part 24 rfl (fun cc1 => ?_) (fun cc1 => absurd (of_decide_eq_false cc1) (by exact fun h => h rfl))
  have cc1 := of_decide_eq_true cc1
  refine OWp.evs 5 rfl ?_
  refine OWp.part 29 rfl (fun cc2 => ?_) (fun cc2 => absurd (of_decide_eq_false cc2) (by exact fun h => h rfl))
  have cc2 := of_decide_eq_true cc2
  refine OWp.step rfl (Step.call rfl rfl rfl rfl rfl rfl ((wworksC hk ?_)))
  refine OWp.evs 2 rfl ?_
  refine OWp.nil ?_
  refine Wp.ret ⟨trivial, _, ⟨_, _, rfl, rfl, rfl⟩, ?_⟩
  rfl
theorem wideUnwrapsW {key block : ByteArray} (hk : KsIn S) (h0 : Rd Tryd.prog S 9 [.string key]) (h1 : Rd Tryd.prog S 9 [.string block]) :
    CallWp Tryd.prog B 5 #[.string key, .string block] (fun v _ => v = .bool true) S := by
  obtain ⟨s, rfl, hs⟩ := rdStrB h0
  obtain ⟨t, rfl, _⟩ := rdStrB h1
  exact wideUnwrapsL hk hs
end
end Go.Proofs.D
