/- What functions of the given program do, one after the other, told by that layer. -/
import Derived.Test.YtfimmdafjalonaaDoorBLaw0
namespace Go.Proofs.D
open Go.Lg Go.Sha
set_option maxRecDepth 100000
section
variable {B : Nat} {S : Ents}

theorem wideTextL {key text : List UInt8} {more : Int} (hk : KsIn S) (h1 : key.length + 1000 ≤ big) (h2 : text.length + 1000 ≤ big) :
    CallWp Tryd.prog B 7 #[.string (str key), .string (str text), .int .i64 more] (fun v _ => v = .bool true) S := by
  have hb : big = 281474976710656 := rfl
  rw [hb] at h2
  have hj := umod_lt more (m := 100) (by decide)
  have ej := umod_eq more (m := 100) (by decide) (by decide)
  obtain ⟨j, hj0⟩ : ∃ j, j = umod more 100 := ⟨_, rfl⟩
  rw [← hj0] at hj ej
  have e34 : IntKind.i64.wrap ((text.length : Int) + 34) = ((text.length + 34 : Nat) : Int) := by rw [i64_id] <;> omega
  obtain ⟨n, hn⟩ : ∃ n, n = max 64 (text.length + 34) + j := ⟨_, rfl⟩
  refine CallWp.enter (args := [_, _, _]) Tryd.func7 rfl Tryd.ntmps7 rfl ?_
  refine Wp.seq (Wp.region ?_)
  refine OWp.evs 1 rfl ?_
  refine OWp.nil ?_
  refine Wp.seq ?_
  refine Wp.seq (Wp.region ?_)
  refine OWp.step rfl (Step.call rfl rfl rfl rfl rfl rfl ((wworksC hk ?_)))
  refine OWp.evs 1 rfl ?_
  refine OWp.nil ?_
  refine Wp.cond rfl (fun c => nomatch c) (fun _ => ?_)
  refine Wp.skip ?_
  refine Wp.seq ?_
  refine Wp.seq (Wp.region ?_)
  refine OWp.evs 3 rfl ?_
  refine OWp.nil ?_
  refine Wp.cond rfl (fun c1 => ?_) (fun c1 => ?_)
  · have c1 := of_decide_eq_true c1
    refine Wp.seq (Wp.region ?_)
    refine OWp.evs 1 rfl ?_
    refine OWp.nil ?_
    refine Wp.ret ⟨trivial, _, ⟨_, _, rfl, rfl, rfl⟩, ?_⟩
    rfl
  have c1 := of_decide_eq_false c1
  refine Wp.skip ?_
  refine Wp.seq (Wp.region ?_)
  refine OWp.evs 10 rfl ?_
  refine OWp.nil ?_
  refine Wp.weaken (E' := [(0, .string (str key)), (1, .string (str text)), (7, .int .i64 (n : Int))]) (.cons rfl (.cons rfl (.cons' rfl (int_eq (by
    show IntKind.i64.wrap ((if IntKind.i64.wrap ((text.length : Int) + 34) > 64 then IntKind.i64.wrap ((text.length : Int) + 34) else 64) + IntKind.i64.wrap ((IntKind.u64.wrap more).tmod ((100 : Nat) : Int))) = _
    rw [max_eq e34, ej, i64_id (by omega) (by omega), hn]; omega)) (.nil _)))) (fun _ h => h) ?_
  have hpl : (wplain text n).length = n := wplain_len (by omega)
  have hwl : (wshut key (wplain text n)).length = n := by rw [wshut_len key (by omega), hpl]
  have ho : wopen key (wshut key (wplain text n)) = wplain text n := wopen_shut key (by omega)
  refine Wp.seq (Wp.region ?_)
  refine OWp.evs 3 rfl ?_
  refine OWp.step rfl (Step.call rfl rfl rfl rfl rfl rfl ((wwrapOkC (n := n) hk h1 (by omega) (by omega) (by omega) ?_)))
  obtain ⟨w, hw⟩ : ∃ w, w = wshut key (wplain text n) := ⟨_, rfl⟩
  rw [← hw] at hwl ho ⊢
  have e1 : unwrapR key w = (text, 0) := unwrapR_ok (by omega) (by omega) (by rw [ho]; exact wtext_plain (by omega) (by omega))
  refine OWp.evs 5 rfl ?_
  refine OWp.nil ?_
  refine Wp.seq (Wp.region ?_)
  refine OWp.evs 2 rfl ?_
  refine OWp.step rfl (Step.call rfl rfl rfl rfl rfl rfl ((wunwrapC hk h1 ?_)))
  rw [e1]
  dsimp only
  refine OWp.evs 5 rfl ?_
  refine OWp.nil ?_
  refine Wp.seq (Wp.region ?_)
  refine OWp.evs 3 rfl ?_
  refine OWp.part 41 rfl (fun cc1 => ?_) (fun cc1 => absurd (of_decide_eq_false cc1) (by decide))
  have cc1 := of_decide_eq_true cc1
  refine OWp.evs 4 rfl ?_
  refine OWp.part 45 rfl (fun cc2 => ?_) (fun cc2 => absurd (of_decide_eq_false cc2) (by decide))
  have cc2 := of_decide_eq_true cc2
  refine OWp.evs 6 rfl ?_
  refine OWp.part 51 rfl (fun cc3 => ?_) (fun cc3 => absurd (of_decide_eq_false cc3) (by rw [hwl]; omega))
  have cc3 := of_decide_eq_true cc3
  refine OWp.evs 5 rfl ?_
  refine OWp.nil ?_
  refine Wp.ret ⟨trivial, _, ⟨_, _, rfl, rfl, rfl⟩, ?_⟩
  exact congrArg Value.bool (decide_eq_true rfl)
theorem wideTextW {key text : ByteArray} {more : Int} (hk : KsIn S) (h0 : Rd Tryd.prog S 9 [.string key]) (h1 : Rd Tryd.prog S 9 [.string text]) (_h2 : Rd Tryd.prog S 3 [.int .i64 more]) :
    CallWp Tryd.prog B 7 #[.string key, .string text, .int .i64 more] (fun v _ => v = .bool true) S := by
  obtain ⟨s, rfl, hs⟩ := rdStrB h0
  obtain ⟨t, rfl, ht⟩ := rdStrB h1
  exact wideTextL hk (by omega) (by omega)
end
end Go.Proofs.D
