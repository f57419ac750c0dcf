/- What functions of the given program do, one after the other, told by that layer. -/
import Derived.Test.YtfimmdafjalonaaDoorBLaw0
namespace Go.Proofs.D
open Go.Lg Go.Sha
set_option maxRecDepth 100000
section
variable {B : Nat} {S : Ents}

theorem wideBackL {key block : List UInt8} (hk : KsIn S) (h1 : key.length + 1000 ≤ big) (h2 : block.length + 1000 ≤ big) :
    CallWp Tryd.prog B 6 #[.string (str key), .string (str block)] (fun v _ => v = .bool true) S := by
  have hb : big = 281474976710656 := rfl
  by_cases c1 : block.length < 64
  · skip
    refine CallWp.enter (args := [_, _]) Tryd.func6 rfl Tryd.ntmps6 rfl ?_
    refine Wp.seq (Wp.region ?_)
    refine OWp.evs 1 rfl ?_
    refine OWp.nil ?_
    refine Wp.seq ?_
    refine Wp.seq (Wp.region ?_)
    refine OWp.step rfl (Step.call rfl rfl rfl rfl rfl rfl ((wworksC hk ?_)))
    refine OWp.evs 1 rfl ?_
    refine OWp.nil ?_
    refine Wp.cond rfl (fun c => nomatch c) (fun _ => ?_)
    refine Wp.skip ?_
    refine Wp.seq (Wp.region ?_)
    refine OWp.evs 2 rfl ?_
    refine OWp.step rfl (Step.call rfl rfl rfl rfl rfl rfl ((wshutC hk h1 ?_)))
    rw [blockR_short c1]
    refine OWp.evs 5 rfl ?_
    refine OWp.nil ?_
    refine Wp.seq (Wp.region ?_)
    refine OWp.evs 2 rfl ?_
    refine OWp.step rfl (Step.call rfl rfl rfl rfl rfl rfl ((wopenC hk h1 ?_)))
    rw [blockR_short c1]
    refine OWp.evs 5 rfl ?_
    refine OWp.nil ?_
    refine Wp.seq ?_
    refine Wp.seq (Wp.region ?_)
    refine OWp.evs 4 rfl ?_
    refine OWp.part 30 rfl (fun cc1 => absurd (ndT cc1) (by decide)) (fun cc1 => ?_)
    have cc1 := ndF cc1
    refine OWp.evs 5 rfl ?_
    refine OWp.part 35 rfl (fun cc2 => ?_) (fun cc2 => absurd (of_decide_eq_false cc2) (by omega))
    have cc2 := of_decide_eq_true cc2
    refine OWp.evs 4 rfl ?_
    refine OWp.nil ?_
    refine Wp.cond rfl (fun _ => ?_) (fun c => nomatch c)
    refine Wp.seq (Wp.region ?_)
    refine OWp.evs 4 rfl ?_
    refine OWp.part 43 rfl (fun cc3 => ?_) (fun cc3 => absurd (of_decide_eq_false cc3) (by decide))
    have cc3 := of_decide_eq_true cc3
    refine OWp.evs 4 rfl ?_
    refine OWp.part 47 rfl (fun cc4 => ?_) (fun cc4 => absurd (ndF cc4) (by decide))
    have cc4 := ndT cc4
    refine OWp.evs 4 rfl ?_
    refine OWp.part 51 rfl (fun cc5 => ?_) (fun cc5 => absurd (of_decide_eq_false cc5) (by decide))
    have cc5 := of_decide_eq_true cc5
    refine OWp.evs 4 rfl ?_
    refine OWp.nil ?_
    refine Wp.ret ⟨trivial, _, ⟨_, _, rfl, rfl, rfl⟩, ?_⟩
    rfl
  by_cases c2 : 8192 < block.length
  · skip
    refine CallWp.enter (args := [_, _]) Tryd.func6 rfl Tryd.ntmps6 rfl ?_
    refine Wp.seq (Wp.region ?_)
    refine OWp.evs 1 rfl ?_
    refine OWp.nil ?_
    refine Wp.seq ?_
    refine Wp.seq (Wp.region ?_)
    refine OWp.step rfl (Step.call rfl rfl rfl rfl rfl rfl ((wworksC hk ?_)))
    refine OWp.evs 1 rfl ?_
    refine OWp.nil ?_
    refine Wp.cond rfl (fun c => nomatch c) (fun _ => ?_)
    refine Wp.skip ?_
    refine Wp.seq (Wp.region ?_)
    refine OWp.evs 2 rfl ?_
    refine OWp.step rfl (Step.call rfl rfl rfl rfl rfl rfl ((wshutC hk h1 ?_)))
    rw [blockR_long c2]
    refine OWp.evs 5 rfl ?_
    refine OWp.nil ?_
    refine Wp.seq (Wp.region ?_)
    refine OWp.evs 2 rfl ?_
    refine OWp.step rfl (Step.call rfl rfl rfl rfl rfl rfl ((wopenC hk h1 ?_)))
    rw [blockR_long c2]
    refine OWp.evs 5 rfl ?_
    refine OWp.nil ?_
    refine Wp.seq ?_
    refine Wp.seq (Wp.region ?_)
    refine OWp.evs 4 rfl ?_
    refine OWp.part 30 rfl (fun cc1 => absurd (ndT cc1) (by decide)) (fun cc1 => ?_)
    have cc1 := ndF cc1
    refine OWp.evs 5 rfl ?_
    refine OWp.part 35 rfl (fun cc2 => absurd (of_decide_eq_true cc2) (by omega)) (fun cc2 => ?_)
    have cc2 := of_decide_eq_false cc2
    refine OWp.evs 4 rfl ?_
    refine OWp.nil ?_
    refine Wp.cond rfl (fun cc3 => ?_) (fun cc3 => absurd (of_decide_eq_false cc3) (by omega))
    have cc3 := of_decide_eq_true cc3
    refine Wp.seq (Wp.region ?_)
    refine OWp.evs 4 rfl ?_
    refine OWp.part 43 rfl (fun cc4 => ?_) (fun cc4 => absurd (of_decide_eq_false cc4) (by decide))
    have cc4 := of_decide_eq_true cc4
    refine OWp.evs 4 rfl ?_
    refine OWp.part 47 rfl (fun cc5 => ?_) (fun cc5 => absurd (ndF cc5) (by decide))
    have cc5 := ndT cc5
    refine OWp.evs 4 rfl ?_
    refine OWp.part 51 rfl (fun cc6 => ?_) (fun cc6 => absurd (of_decide_eq_false cc6) (by decide))
    have cc6 := of_decide_eq_true cc6
    refine OWp.evs 4 rfl ?_
    refine OWp.nil ?_
    refine Wp.ret ⟨trivial, _, ⟨_, _, rfl, rfl, rfl⟩, ?_⟩
    rfl
  have h32 : 32 ≤ block.length := by omega
  have l1 := wshut_len key h32
  have l2 := wopen_len key h32
  have o1 := wopen_shut key h32
  have o2 := wshut_open key h32
  refine CallWp.enter (args := [_, _]) Tryd.func6 rfl Tryd.ntmps6 rfl ?_
  refine Wp.seq (Wp.region ?_)
  refine OWp.evs 1 rfl ?_
  refine OWp.nil ?_
  refine Wp.seq ?_
  refine Wp.seq (Wp.region ?_)
  refine OWp.step rfl (Step.call rfl rfl rfl rfl rfl rfl ((wworksC hk ?_)))
  refine OWp.evs 1 rfl ?_
  refine OWp.nil ?_
  refine Wp.cond rfl (fun c => nomatch c) (fun _ => ?_)
  refine Wp.skip ?_
  refine Wp.seq (Wp.region ?_)
  refine OWp.evs 2 rfl ?_
  refine OWp.step rfl (Step.call rfl rfl rfl rfl rfl rfl ((wshutC hk h1 ?_)))
  rw [blockR_ok (by omega) (by omega)]
  obtain ⟨x, hx⟩ : ∃ x, x = wshut key block := ⟨_, rfl⟩
  rw [← hx] at l1 o1 ⊢
  dsimp only
  refine OWp.evs 5 rfl ?_
  refine OWp.nil ?_
  refine Wp.seq (Wp.region ?_)
  refine OWp.evs 2 rfl ?_
  refine OWp.step rfl (Step.call rfl rfl rfl rfl rfl rfl ((wopenC hk h1 ?_)))
  rw [blockR_ok (by omega) (by omega)]
  obtain ⟨y, hy⟩ : ∃ y, y = wopen key block := ⟨_, rfl⟩
  rw [← hy] at l2 o2 ⊢
  dsimp only
  refine OWp.evs 5 rfl ?_
  refine OWp.nil ?_
  refine Wp.seq ?_
  refine Wp.seq (Wp.region ?_)
  refine OWp.evs 4 rfl ?_
  refine OWp.part 30 rfl (fun cc1 => absurd (ndT cc1) (by decide)) (fun cc1 => ?_)
  have cc1 := ndF cc1
  refine OWp.evs 5 rfl ?_
  refine OWp.part 35 rfl (fun cc2 => absurd (of_decide_eq_true cc2) (by omega)) (fun cc2 => ?_)
  have cc2 := of_decide_eq_false cc2
  refine OWp.evs 4 rfl ?_
  refine OWp.nil ?_
  refine Wp.cond rfl (fun cc3 => absurd (of_decide_eq_true cc3) (by omega)) (fun cc3 => ?_)
  have cc3 := of_decide_eq_false cc3
  refine Wp.skip ?_
  refine Wp.seq (Wp.region ?_)
  refine OWp.evs 2 rfl ?_
  refine OWp.step rfl (Step.call rfl rfl rfl rfl rfl rfl ((wopenC hk h1 ?_)))
  rw [blockR_ok (by omega) (by omega), o1]
  dsimp only
  refine OWp.evs 5 rfl ?_
  refine OWp.nil ?_
  refine Wp.seq (Wp.region ?_)
  refine OWp.evs 2 rfl ?_
  refine OWp.step rfl (Step.call rfl rfl rfl rfl rfl rfl ((wshutC hk h1 ?_)))
  rw [blockR_ok (by omega) (by omega), o2]
  dsimp only
  refine OWp.evs 5 rfl ?_
  refine OWp.nil ?_
  refine Wp.seq (Wp.region ?_)
  refine OWp.evs 3 rfl ?_
  refine OWp.part 69 rfl (fun cc4 => ?_) (fun cc4 => absurd (of_decide_eq_false cc4) (by decide))
  have cc4 := of_decide_eq_true cc4
  refine OWp.evs 4 rfl ?_
  refine OWp.part 73 rfl (fun cc5 => ?_) (fun cc5 => absurd (of_decide_eq_false cc5) (by decide))
  have cc5 := of_decide_eq_true cc5
  refine OWp.evs 4 rfl ?_
  refine OWp.part 77 rfl (fun cc6 => ?_) (fun cc6 => absurd (of_decide_eq_false cc6) (by decide))
  have cc6 := of_decide_eq_true cc6
  refine OWp.evs 5 rfl ?_
  refine OWp.part 82 rfl (fun cc7 => ?_) (fun cc7 => absurd (of_decide_eq_false cc7) (by exact fun h => h rfl))
  have cc7 := of_decide_eq_true cc7
  refine OWp.evs 5 rfl ?_
  refine OWp.part 87 rfl (fun cc8 => ?_) (fun cc8 => absurd (of_decide_eq_false cc8) (by exact fun h => h rfl))
  have cc8 := of_decide_eq_true cc8
  refine OWp.evs 7 rfl ?_
  refine OWp.part 94 rfl (fun cc9 => ?_) (fun cc9 => absurd (of_decide_eq_false cc9) (by omega))
  have cc9 := of_decide_eq_true cc9
  refine OWp.evs 7 rfl ?_
  refine OWp.nil ?_
  refine Wp.ret ⟨trivial, _, ⟨_, _, rfl, rfl, rfl⟩, ?_⟩
  exact congrArg Value.bool (decide_eq_true (by omega))
theorem wideBackW {key block : ByteArray} (hk : KsIn S) (h0 : Rd Tryd.prog S 9 [.string key]) (h1 : Rd Tryd.prog S 9 [.string block]) :
    CallWp Tryd.prog B 6 #[.string key, .string block] (fun v _ => v = .bool true) S := by
  obtain ⟨s, rfl, hs⟩ := rdStrB h0
  obtain ⟨t, rfl, ht⟩ := rdStrB h1
  exact wideBackL hk (by omega) (by omega)
end
end Go.Proofs.D
