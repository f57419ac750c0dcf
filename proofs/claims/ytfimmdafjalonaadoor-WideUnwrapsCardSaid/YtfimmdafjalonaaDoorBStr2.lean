/- What functions of the given program do, one after the other, told by that layer. -/
import Derived.Test.YtfimmdafjalonaaDoorBStr
namespace Go.Proofs.D
open Go.Lg Go.Sha
set_option maxRecDepth 100000

def trim (l : List UInt8) : List UInt8 := ((l.reverse.dropWhile (· == 0)).reverse).dropWhile (· == 0)

section
variable {B : Nat} {S R : Ents} {Q : Value → Ents → Prop}

theorem trimC {l : List UInt8} (hl : l.length ≤ big) (H : Q (.string (str (trim l))) S) :
    CallWp Tryd.prog B 41 #[.string (str l), .string (str [0])] Q S := by
  refine CallWp.enter (args := [_, _]) Tryd.func41 rfl Tryd.ntmps41 rfl ?_
  refine Wp.seq (Wp.region ?_)
  refine OWp.evs 1 rfl ?_
  refine OWp.nil ?_
  refine Wp.seq ?_
  refine Wp.seq (Wp.region ?_)
  refine OWp.evs 3 rfl ?_
  refine OWp.part 9 rfl (fun h1 => ?_) (fun h1 => ?_)
  · have h1 := of_decide_eq_true h1
    refine OWp.evs 3 rfl ?_
    refine OWp.nil ?_
    refine Wp.cond rfl (fun _ => ?_) (fun c => nomatch c)
    refine Wp.seq (Wp.region ?_)
    refine OWp.evs 2 rfl ?_
    refine OWp.nil ?_
    refine Wp.ret ⟨trivial, _, ⟨_, _, rfl, rfl, rfl⟩, ?_⟩
    subst h1; exact H
  have h1 := of_decide_eq_false h1
  refine OWp.evs 3 rfl ?_
  refine OWp.nil ?_
  refine Wp.cond rfl (fun cc1 => absurd (of_decide_eq_true cc1) (by decide)) (fun cc1 => ?_)
  have cc1 := of_decide_eq_false cc1
  refine Wp.skip ?_
  refine Wp.seq ?_
  refine Wp.seq (Wp.region ?_)
  refine OWp.evs 4 rfl ?_
  refine OWp.part 17 rfl (fun cc2 => ?_) (fun cc2 => absurd (of_decide_eq_false cc2) (by decide))
  have cc2 := of_decide_eq_true cc2
  refine OWp.evs 1 rfl ?_
  refine OWp.g rfl rfl (Gives.indexStr (b := 0) rfl rfl rfl rfl (by decide) rfl) ?_
  refine OWp.evs 2 rfl ?_
  refine OWp.nil ?_
  refine Wp.cond rfl (fun cc3 => ?_) (fun cc3 => absurd (of_decide_eq_false cc3) (by decide))
  have cc3 := of_decide_eq_true cc3
  refine Wp.seq (Wp.regionDraw [0, 1, 2, 4, 5, 3, 6, 7] [3, 6] rfl (by decide +kernel) ?_)
  refine DWp.evs 2 rfl ?_
  refine DWp.g rfl rfl rfl rfl (Gives.indexStr (b := 0) rfl rfl rfl rfl (by decide) rfl) ?_
  refine DWp.evs 1 rfl ?_
  refine DWp.g rfl rfl rfl rfl (Gives.indexStr (b := 0) rfl rfl rfl rfl (by decide) rfl) ?_
  refine DWp.stepGrow rfl rfl rfl (Step.call rfl rfl rfl rfl rfl rfl ((trimRC hl ?_)))
  refine ⟨fun _ hy => hy, ?_⟩
  refine DWp.stepGrow rfl rfl rfl (Step.call rfl rfl rfl rfl rfl rfl ((trimLC (by rw [List.length_reverse]; exact Nat.le_trans (List.dropWhile_sublist _).length_le (by simpa using hl)) ?_)))
  refine ⟨fun _ hy => hy, ?_⟩
  refine DWp.evs 1 rfl ?_
  refine DWp.nil ?_
  refine Wp.ret ⟨trivial, _, ⟨_, _, rfl, rfl, rfl⟩, ?_⟩
  exact H
theorem bWriteEqC {b : Nat} {x y s : List UInt8} {es : Ents} (hy : y = s) (h : Bd B b x es) (hl : x.length + s.length ≤ 140737488355328) (H : ∀ es', Bd B b (x ++ s) es' → Q (.tuple #[.int .i64 (s.length : Int), .nilIface]) (es' ++ R)) :
    CallWp Tryd.prog B 68 #[pt b, .string (str y)] Q (es ++ R) := by
  subst hy; exact bWriteC h hl H

set_option maxHeartbeats 1000000 in
theorem zerosC {n : Nat} (hn : n ≤ 2147483648) (H : Q (.string (str (List.replicate n 0))) S) :
    CallWp Tryd.prog B 39 #[.string (str [0]), .int .i64 (n : Int)] Q S := by
  refine CallWp.enter (args := [_, _]) Tryd.func39 rfl Tryd.ntmps39 rfl ?_
  refine Wp.seq (Wp.region ?_)
  refine OWp.evs 1 rfl ?_
  refine OWp.nil ?_
  refine Wp.seq ?_
  refine Wp.seq (Wp.region ?_)
  refine OWp.evs 1 rfl ?_
  refine OWp.nil ?_
  refine Wp.block ?_
  refine Wp.seq (Wp.region ?_)
  refine OWp.evs 2 rfl ?_
  refine OWp.nil ?_
  refine Wp.cond rfl (fun h1 => ?_) (fun h1 => ?_)
  · have h1 := of_decide_eq_true h1
    obtain rfl : n = 0 := by omega
    refine Wp.seq (Wp.region ?_)
    refine OWp.evs 1 rfl ?_
    refine OWp.nil ?_
    refine Wp.ret ⟨trivial, _, ⟨_, _, rfl, rfl, rfl⟩, ?_⟩
    exact H
  have h1 := of_decide_eq_false h1
  refine Wp.seq (Wp.region ?_)
  refine OWp.evs 2 rfl ?_
  refine OWp.nil ?_
  refine Wp.cond rfl (fun h2 => ?_) (fun h2 => ?_)
  · have h2 := of_decide_eq_true h2
    obtain rfl : n = 1 := by omega
    refine Wp.seq (Wp.region ?_)
    refine OWp.evs 2 rfl ?_
    refine OWp.nil ?_
    refine Wp.ret ⟨trivial, _, ⟨_, _, rfl, rfl, rfl⟩, ?_⟩
    exact H
  have h2 := of_decide_eq_false h2
  refine Wp.skip ?_
  refine Wp.seq ?_
  refine Wp.seq (Wp.region ?_)
  refine OWp.evs 2 rfl ?_
  refine OWp.nil ?_
  refine Wp.cond rfl (fun cc1 => absurd (of_decide_eq_true cc1) (by omega)) (fun cc1 => ?_)
  have cc1 := of_decide_eq_false cc1
  refine Wp.skip ?_
  refine Wp.seq (Wp.region ?_)
  refine OWp.evs 5 rfl ?_
  refine OWp.step rfl (Step.call rfl rfl rfl rfl rfl rfl ((mul1C (n := n) (by omega) (by decide +kernel) (by rw [IntKind.wrap_u64]; omega) ?_)))
  refine OWp.evs 5 rfl ?_
  refine OWp.nil ?_
  refine Wp.seq ?_
  refine Wp.seq (Wp.region ?_)
  refine OWp.evs 3 rfl ?_
  refine OWp.part 31 rfl (fun cc2 => absurd (of_decide_eq_true cc2) (by omega)) (fun cc2 => ?_)
  have cc2 := of_decide_eq_false cc2
  refine OWp.evs 3 rfl ?_
  refine OWp.nil ?_
  refine Wp.cond rfl (fun cc3 => absurd (of_decide_eq_true cc3) (by omega)) (fun cc3 => ?_)
  have cc3 := of_decide_eq_false cc3
  refine Wp.skip ?_
  refine Wp.seq (Wp.region ?_)
  refine OWp.evs 3 rfl ?_
  refine OWp.nil ?_
  refine Wp.seq ?_
  refine Wp.seq (Wp.region ?_)
  refine OWp.evs 3 rfl ?_
  refine OWp.nil ?_
  refine Wp.cond rfl (fun cc4 => absurd (of_decide_eq_true cc4) (by decide)) (fun cc4 => ?_)
  have cc4 := of_decide_eq_false cc4
  refine Wp.skip ?_
  refine Wp.seq ?_
  refine Wp.seq (Wp.region ?_)
  refine OWp.evs 1 rfl ?_
  refine OWp.g rfl rfl (Gives.indexStr (b := 0) rfl rfl rfl rfl (by decide) rfl) ?_
  refine OWp.nil ?_
  refine Wp.block ?_
  refine Wp.seq ?_
  refine Wp.seq (Wp.region ?_)
  refine OWp.evs 2 rfl ?_
  refine OWp.nil ?_
  refine Wp.cond rfl (fun cc5 => absurd (of_decide_eq_true cc5) (by decide)) (fun cc5 => ?_)
  have cc5 := of_decide_eq_false cc5
  refine Wp.seq (Wp.region ?_)
  refine OWp.evs 2 rfl ?_
  refine OWp.nil ?_
  refine Wp.cond rfl (fun cc6 => absurd (of_decide_eq_true cc6) (by decide)) (fun cc6 => ?_)
  have cc6 := of_decide_eq_false cc6
  refine Wp.seq (Wp.region ?_)
  refine OWp.evs 2 rfl ?_
  refine OWp.nil ?_
  refine Wp.cond rfl (fun cc7 => absurd (of_decide_eq_true cc7) (by decide)) (fun cc7 => ?_)
  have cc7 := of_decide_eq_false cc7
  refine Wp.seq (Wp.region ?_)
  refine OWp.evs 2 rfl ?_
  refine OWp.nil ?_
  refine Wp.cond rfl (fun cc8 => absurd (of_decide_eq_true cc8) (by decide)) (fun cc8 => ?_)
  have cc8 := of_decide_eq_false cc8
  refine Wp.region ?_
  refine OWp.evs 2 rfl ?_
  refine OWp.nil ?_
  refine Wp.cond rfl (fun cc9 => absurd (of_decide_eq_true cc9) (by decide)) (fun cc9 => ?_)
  have cc9 := of_decide_eq_false cc9
  refine Wp.skip ?_
  refine Wp.seq (Wp.region ?_)
  refine OWp.evs 2 rfl ?_
  refine OWp.nil ?_
  refine Wp.seqS (α := Nat) (fun c => [(0, .string (str [0])), (7, .int .i64 (n : Int)), (8, .int .i64 (c : Int))]) (fun _ => S) (fun c => 0 < c ∧ c ≤ 2147483648) ?_ ?_
  · skip
    refine Wp.seq (Wp.region ?_)
    refine OWp.evs 2 rfl ?_
    refine OWp.nil ?_
    refine Wp.cond rfl (fun k1 => ?_) (fun k1 => ?_)
    · have k1 := of_decide_eq_true k1
      refine Wp.seq (Wp.region ?_)
      refine OWp.evs 2 rfl ?_
      refine OWp.g rfl rfl (Gives.quo rfl rfl rfl (by decide)) ?_
      refine OWp.evs 4 rfl ?_
      refine OWp.nil ?_
      refine Wp.seq (Wp.region ?_)
      refine OWp.evs 2 rfl ?_
      refine OWp.nil ?_
      refine Wp.cond rfl (fun cc10 => absurd (of_decide_eq_true cc10) (by decide)) (fun cc10 => ?_)
      have cc10 := of_decide_eq_false cc10
      refine Wp.skip ?_
      exact ⟨8192, by decide, .cons rfl (.cons' rfl (int_eq (i64_id (by omega) (by omega))) (.cons' rfl rfl (.nil _))), .refl _⟩
    have k1 := of_decide_eq_false k1
    refine Wp.skip ?_
    exact ⟨n, by omega, .cons rfl (.cons' rfl (int_eq (i64_id (by omega) (by omega))) (.cons' rfl (int_eq (i64_id (by omega) (by omega))) (.nil _))), .refl _⟩
  rintro c ⟨hc, hc2⟩
  refine Wp.seq (Wp.region ?_)
  refine OWp.step rfl (Step.alloc rfl rfl rfl ?_); intro L hBL hLL
  refine OWp.nil ?_
  refine Wp.seq (Wp.region ?_)
  refine OWp.evs 1 rfl ?_
  refine OWp.step rfl (Step.call rfl rfl rfl rfl rfl rfl ((bGrowOutC hBL (by omega) (by omega) ?_)))
  intro es1 hb1
  refine OWp.nil ?_
  refine Wp.seq (Wp.region ?_)
  refine OWp.evs 1 rfl ?_
  refine OWp.step rfl (Step.call rfl rfl rfl rfl rfl rfl ((bWriteC (s := [0]) hb1 (by decide) ?_)))
  intro es2 hb2
  refine OWp.nil ?_
  refine Wp.seq ?_
  refine Wp.block ?_
  refine Wp.loopS (α := Nat × Ents) (fun z => n - z.1) (fun z => [(7, .int .i64 (n : Int)), (8, .int .i64 (c : Int)), (9, pt L)]) (fun z => z.2 ++ S) (fun z => 1 ≤ z.1 ∧ z.1 ≤ n ∧ Bd B L (List.replicate z.1 0) z.2) (1, es2) ?_ (.refl _) ⟨by omega, by omega, hb2⟩ ?_
  · exact .cons rfl (.cons rfl (.cons rfl (.nil _)))
  rintro ⟨k, es⟩ ⟨hk, hkn, hbk⟩
  simp only at hk hkn hbk ⊢
  have hlen : (List.replicate k (0 : UInt8)).length = k := List.length_replicate
  refine Wp.seq ?_
  refine Wp.seq (Wp.region ?_)
  refine OWp.step rfl (Step.call rfl rfl rfl rfl rfl rfl ((bLenC hbk ?_)))
  rw [hlen]
  refine OWp.evs 2 rfl ?_
  refine OWp.nil ?_
  refine Wp.cond rfl (fun h5 => ?_) (fun h5 => ?_)
  · have h5 := of_decide_eq_true h5
    have hk5 : k < n := by omega
    refine Wp.skip ?_
    refine Wp.block ?_
    refine Wp.seq (Wp.region ?_)
    refine OWp.evs 1 rfl ?_
    refine OWp.step rfl (Step.call rfl rfl rfl rfl rfl rfl ((bLenC hbk ?_)))
    rw [hlen]
    refine OWp.evs 1 rfl ?_
    refine OWp.step rfl (Step.call rfl rfl rfl rfl rfl rfl ((bLenC hbk ?_)))
    rw [hlen]
    have e1 : IntKind.i64.wrap ((n : Int) - (k : Int)) = (n : Int) - (k : Int) := by rw [i64_id] <;> omega
    obtain ⟨m, hm, hm0, hmk, hmn⟩ : ∃ m : Nat, (if (c : Int) < (if (k : Int) < IntKind.i64.wrap ((n : Int) - (k : Int)) then (k : Int) else IntKind.i64.wrap ((n : Int) - (k : Int))) then (c : Int) else (if (k : Int) < IntKind.i64.wrap ((n : Int) - (k : Int)) then (k : Int) else IntKind.i64.wrap ((n : Int) - (k : Int)))) = (m : Int) ∧ 1 ≤ m ∧ m ≤ k ∧ m ≤ n - k := by
      rw [e1]
      refine ⟨(if (c : Int) < (if (k : Int) < (n : Int) - (k : Int) then (k : Int) else (n : Int) - (k : Int)) then (c : Int) else (if (k : Int) < (n : Int) - (k : Int) then (k : Int) else (n : Int) - (k : Int))).toNat, ?_, ?_, ?_, ?_⟩ <;> (repeat' split) <;> omega
    refine OWp.evs 1 rfl ?_
    refine OWp.g rfl rfl (Gives.min3 rfl rfl rfl rfl hm) ?_
    refine OWp.evs 1 rfl ?_
    refine OWp.nil ?_
    refine Wp.region ?_
    refine OWp.step rfl (Step.call rfl rfl rfl rfl rfl rfl ((bStringC hbk ?_)))
    intro es3 hb3
    refine OWp.evs 1 rfl ?_
    refine OWp.g rfl rfl (Gives.sliceStr (l := 0) (h' := m) rfl rfl rfl rfl ⟨_, _, rfl, rfl⟩ (by omega) (by rw [hlen]; omega)) ?_
    refine OWp.step rfl (Step.call rfl rfl rfl rfl rfl rfl ((bWriteEqC (s := List.replicate m 0) (by simp only [List.take_replicate, List.drop_replicate]; congr 1; omega) hb3 (by rw [hlen, List.length_replicate]; omega) ?_)))
    intro es4 hb4
    rw [List.replicate_append_replicate] at hb4
    refine OWp.nil ?_
    exact ⟨(k + m, es4), by simp only; omega, ⟨by simp only; omega, by simp only; omega, hb4⟩, .cons rfl (.cons rfl (.cons rfl (.nil _))), .refl _⟩
  have h5 := of_decide_eq_false h5
  obtain rfl : k = n := by omega
  refine Wp.exit ?_
  refine Wp.seq (Wp.region ?_)
  refine OWp.step rfl (Step.call rfl rfl rfl rfl rfl rfl ((bStringC hbk ?_)))
  intro es3 hb3
  refine OWp.evs 1 rfl ?_
  refine OWp.nil ?_
  refine Wp.drop (List.sublist_append_right _ _) ?_
  refine Wp.ret ⟨trivial, _, ⟨_, _, rfl, rfl, rfl⟩, ?_⟩
  exact H
end
end Go.Proofs.D
