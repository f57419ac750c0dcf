/- What functions of the given program do, one after the other, told by that layer. -/
import Derived.Test.YtfimmdafjalonaaDoorBLaw0
import Derived.Test.YtfimmdafjalonaaDoorBRef8
namespace Go.Proofs.D
open Go.Lg Go.Sha
set_option maxRecDepth 100000
section
variable {B : Nat} {S : Ents}
theorem wideTurnsL {key block : List UInt8} (hk : KsIn S) (h1 : key.length + 5000 ≤ big) (_h2 : block.length + 5000 ≤ big) :
    CallWp Tryd.prog B 3 #[.string (str key), .string (str block)] (fun v _ => v = .bool true) S := by
  obtain ⟨x, hx⟩ : ∃ x, x = blockR (wshut key) block := ⟨_, rfl⟩
  obtain ⟨y, hy⟩ : ∃ y, y = blockR (wopen key) block := ⟨_, rfl⟩
  refine CallWp.enter (args := [_, _]) Tryd.func3 rfl Tryd.ntmps3 rfl ?_
  refine Wp.seq (Wp.region ?_)
  refine OWp.evs 1 rfl ?_
  refine OWp.nil ?_
  refine Wp.seq (Wp.region ?_)
  refine OWp.evs 2 rfl ?_
  refine OWp.step rfl (Step.call rfl rfl rfl rfl rfl rfl ((wshutC hk (by omega) ?_)))
  rw [← hx]
  refine OWp.evs 5 rfl ?_
  refine OWp.nil ?_
  refine Wp.seq (Wp.region ?_)
  refine OWp.evs 2 rfl ?_
  refine OWp.step rfl (Step.call rfl rfl rfl rfl rfl rfl ((rshutC (by omega) ?_)))
  rw [← hx]
  refine OWp.evs 5 rfl ?_
  refine OWp.nil ?_
  refine Wp.seq (Wp.region ?_)
  refine OWp.evs 2 rfl ?_
  refine OWp.step rfl (Step.call rfl rfl rfl rfl rfl rfl ((wopenC hk (by omega) ?_)))
  rw [← hy]
  refine OWp.evs 5 rfl ?_
  refine OWp.nil ?_
  refine Wp.seq (Wp.region ?_)
  refine OWp.evs 2 rfl ?_
  refine OWp.step rfl (Step.call rfl rfl rfl rfl rfl rfl ((ropenC (by omega) ?_)))
  rw [← hy]
  refine OWp.evs 5 rfl ?_
  refine OWp.nil ?_
  refine Wp.seq (Wp.region ?_)
  refine OWp.evs 6 rfl ?_
  refine OWp.part 42 rfl (fun cc1 => ?_) (fun cc1 => absurd (of_decide_eq_false cc1) (by exact fun h => h rfl))
  have cc1 := of_decide_eq_true cc1
  refine OWp.evs 5 rfl ?_
  refine OWp.part 47 rfl (fun cc2 => ?_) (fun cc2 => absurd (of_decide_eq_false cc2) (by exact fun h => h rfl))
  have cc2 := of_decide_eq_true cc2
  refine OWp.evs 5 rfl ?_
  refine OWp.part 52 rfl (fun cc3 => ?_) (fun cc3 => absurd (of_decide_eq_false cc3) (by exact fun h => h rfl))
  have cc3 := of_decide_eq_true cc3
  refine OWp.evs 5 rfl ?_
  refine OWp.part 57 rfl (fun cc4 => ?_) (fun cc4 => absurd (of_decide_eq_false cc4) (by exact fun h => h rfl))
  have cc4 := of_decide_eq_true cc4
  refine OWp.step rfl (Step.call rfl rfl rfl rfl rfl rfl ((wworksC hk ?_)))
  refine OWp.evs 2 rfl ?_
  refine OWp.nil ?_
  refine Wp.ret ⟨trivial, _, ⟨_, _, rfl, rfl, rfl⟩, ?_⟩
  rfl
theorem wideTurnsW {key block : ByteArray} (hk : KsIn S) (h0 : Rd Tryd.prog S 9 [.string key]) (h1 : Rd Tryd.prog S 9 [.string block]) :
    CallWp Tryd.prog B 3 #[.string key, .string block] (fun v _ => v = .bool true) S := by
  obtain ⟨s, rfl, hs⟩ := rdStrB h0
  obtain ⟨t, rfl, ht⟩ := rdStrB h1
  exact wideTurnsL hk hs ht
end
end Go.Proofs.D
