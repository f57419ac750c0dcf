/- What functions of the given program do, one after the other, told by that layer. -/
import Derived.Test.YtdgbbfbgakeaaaaADelay3
import Derived.Test.YtdgbbfbgakeaaaaARd
namespace Go.Proofs.C
open Go.Lg
set_option maxRecDepth 100000
section
variable {B : Nat} {S R : Ents}
theorem delayTablesW {mean most u : Int} (_h0 : Rd Try.prog S 3 [.int .i64 mean]) (_h1 : Rd Try.prog S 3 [.int .i64 most]) (_h2 : Rd Try.prog S 3 [.int .i64 u]) :
    CallWp Try.prog B 7 #[.int .i64 mean, .int .i64 most, .int .i64 u] (fun v _ => v = .bool true) S := by
  by_cases hm : mayP most [mean]
  · obtain ⟨m1, m2, m3, m4⟩ := (mayP_one _ _).1 hm
    obtain ⟨mean, rfl⟩ : ∃ m : Nat, mean = (m : Int) := ⟨mean.toNat, by omega⟩
    obtain ⟨most, rfl⟩ : ∃ m : Nat, most = (m : Int) := ⟨most.toNat, by omega⟩
    refine CallWp.enter (args := [_, _, _]) Try.func7 rfl Try.ntmps7 rfl ?_
    refine Wp.seq (Wp.region ?_)
    refine OWp.evs 1 rfl ?_
    refine OWp.nil ?_
    refine Wp.seq (Wp.region ?_)
    refine OWp.evs 2 rfl ?_
    refine OWp.step rfl (Step.call rfl rfl rfl rfl rfl rfl ((table_yes (by omega) (by omega) ?_)))
    intro L hBL hLL
    refine OWp.evs 5 rfl ?_
    refine OWp.nil ?_
    refine Wp.seq (Wp.region ?_)
    refine OWp.evs 2 rfl ?_
    refine OWp.step rfl (Step.call rfl rfl rfl rfl rfl rfl ((rtable_yes (by omega) (by omega) ?_)))
    intro v es hown
    refine OWp.evs 5 rfl ?_
    refine OWp.nil ?_
    refine Wp.seq (Wp.region ?_)
    refine OWp.evs 3 rfl ?_
    refine OWp.step rfl (Step.call rfl rfl rfl rfl rfl rfl ((ofC ?_)))
    refine OWp.evs 5 rfl ?_
    refine OWp.nil ?_
    refine Wp.seq (Wp.region ?_)
    refine OWp.evs 3 rfl ?_
    refine OWp.step rfl (Step.call rfl rfl rfl rfl rfl rfl ((rofC ?_)))
    have r1 := Reads.row (S := es ++ (L, cel (ints (tabs mean (most + 1))) 3) :: S) (sz := 1) (k := most + 1) (cap := most + 1) (b := L) (l := ints (tabs mean (most + 1))) (e := 3) (fz := (0, 0)) (by simp) (by rw [ints_length, tabs_len]; omega)
    rw [Nat.mul_one, List.take_of_length_le (by rw [ints_length, tabs_len]; omega)] at r1
    refine OWp.evs 5 rfl ?_
    refine OWp.nil ?_
    refine Wp.seq (Wp.region ?_)
    refine OWp.evs 2 rfl ?_
    refine OWp.step rfl (Step.call rfl rfl rfl rfl rfl rfl ((sameNats r1 (hown.reads.mono fun x hx => List.mem_append_left _ hx) (by unfold lim; omega) ?_)))
    rw [decide_eq_true rfl]
    refine OWp.evs 1 rfl ?_
    refine OWp.evs 5 rfl ?_
    refine OWp.evs 5 rfl ?_
    refine OWp.part 54 rfl (fun cc1 => ?_) (fun cc1 => absurd (of_decide_eq_false cc1) (by simp))
    have cc1 := of_decide_eq_true cc1
    refine OWp.evs 5 rfl ?_
    refine OWp.part 59 rfl (fun cc2 => ?_) (fun cc2 => absurd (of_decide_eq_false cc2) (by simp))
    have cc2 := of_decide_eq_true cc2
    refine OWp.step rfl (Step.call rfl rfl rfl rfl rfl rfl ((dworks ?_)))
    refine OWp.evs 2 rfl ?_
    refine OWp.nil ?_
    refine Wp.ret ⟨trivial, _, ⟨_, _, rfl, rfl, rfl⟩, ?_⟩
    rfl
  · skip
    refine CallWp.enter (args := [_, _, _]) Try.func7 rfl Try.ntmps7 rfl ?_
    refine Wp.seq (Wp.region ?_)
    refine OWp.evs 1 rfl ?_
    refine OWp.nil ?_
    refine Wp.seq (Wp.region ?_)
    refine OWp.evs 2 rfl ?_
    refine OWp.step rfl (Step.call rfl rfl rfl rfl rfl rfl ((table_no hm ?_)))
    refine OWp.evs 5 rfl ?_
    refine OWp.nil ?_
    refine Wp.seq (Wp.region ?_)
    refine OWp.evs 2 rfl ?_
    refine OWp.step rfl (Step.call rfl rfl rfl rfl rfl rfl ((rtable_no hm ?_)))
    refine OWp.evs 5 rfl ?_
    refine OWp.nil ?_
    refine Wp.seq (Wp.region ?_)
    refine OWp.evs 3 rfl ?_
    refine OWp.step rfl (Step.call rfl rfl rfl rfl rfl rfl ((ofC ?_)))
    refine OWp.evs 5 rfl ?_
    refine OWp.nil ?_
    refine Wp.seq (Wp.region ?_)
    refine OWp.evs 3 rfl ?_
    refine OWp.step rfl (Step.call rfl rfl rfl rfl rfl rfl ((rofC ?_)))
    refine OWp.evs 5 rfl ?_
    refine OWp.nil ?_
    refine Wp.seq (Wp.region ?_)
    refine OWp.evs 2 rfl ?_
    refine OWp.step rfl (Step.call rfl rfl rfl rfl rfl rfl ((sameInts (l := []) (k := []) (Reads.nil _ 1) (Reads.nil _ 1) (by decide) ?_)))
    refine OWp.evs 1 rfl ?_
    refine OWp.evs 5 rfl ?_
    refine OWp.evs 5 rfl ?_
    refine OWp.part 54 rfl (fun cc1 => ?_) (fun cc1 => absurd (of_decide_eq_false cc1) (by simp))
    have cc1 := of_decide_eq_true cc1
    refine OWp.evs 5 rfl ?_
    refine OWp.part 59 rfl (fun cc2 => ?_) (fun cc2 => absurd (of_decide_eq_false cc2) (by simp))
    have cc2 := of_decide_eq_true cc2
    refine OWp.step rfl (Step.call rfl rfl rfl rfl rfl rfl ((dworks ?_)))
    refine OWp.evs 2 rfl ?_
    refine OWp.nil ?_
    refine Wp.ret ⟨trivial, _, ⟨_, _, rfl, rfl, rfl⟩, ?_⟩
    rfl
end
end Go.Proofs.C
