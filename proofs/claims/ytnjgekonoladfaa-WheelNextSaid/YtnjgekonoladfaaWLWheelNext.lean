/- What functions of the given program do, one after the other, told by that layer. -/
import Derived.Test.YtnjgekonoladfaaWWheelJ
namespace Go.Proofs.E
open Go.Lg Go.Whl
set_option maxRecDepth 100000

section
variable {B : Nat} {S : Ents}
set_option maxHeartbeats 2000000 in
theorem wheelNextW {a : Option Addr} {len cap : Nat} (h : Rd Try.prog S 22 [.slice a len cap]) : CallWp Try.prog B 4 #[.slice a len cap] (fun v _ => v = .bool true) S := by
  obtain ⟨zs, hz, rfl, hlen⟩ := rdInts h
  refine CallWp.enter (args := [_]) Try.func4 rfl Try.ntmps4 rfl ?_
  refine Wp.seq (Wp.region ?_)
  refine OWp.evs 1 rfl ?_
  refine OWp.nil ?_
  refine Wp.seq (Wp.region ?_)
  refine OWp.step rfl (Step.call rfl rfl rfl rfl rfl rfl ((newW ?_)))
  intro p W hW
  refine OWp.evs 1 rfl ?_
  refine OWp.nil ?_
  refine Wp.seq ?_
  refine Wp.seq (Wp.region ?_)
  refine OWp.evs 3 rfl ?_
  refine OWp.step rfl (Step.call rfl rfl rfl rfl rfl rfl ((worksC ?_)))
  refine OWp.evs 2 rfl ?_
  refine OWp.nil ?_
  refine Wp.cond rfl (fun c => nomatch c) (fun _ => ?_)
  refine Wp.skip ?_
  refine Wp.seq ?_
  refine Wp.seq (Wp.region ?_)
  refine OWp.evs 1 rfl ?_
  refine OWp.nil ?_
  refine Wp.block ?_
  refine Wp.loopS (α := Nat × List T × Ents) (fun z => 60 - z.1) (fun z => [(0, .slice a zs.length cap), (3, pt p), (4, .int .i64 (z.1 : Int))]) (fun z => z.2.2 ++ S) (fun z => z.1 ≤ 60 ∧ z.2.1.length = z.1 ∧ (∀ t ∈ z.2.1, 0 < t.due) ∧ Wh B p z.2.1 0 z.1 z.2.2) (0, [], W) ?_ (.refl _) ⟨Nat.zero_le _, rfl, (fun _ h => nomatch h), hW⟩ ?_
  · exact .cons rfl (.cons rfl (.cons rfl (.nil _)))
  rintro ⟨i, M, W1⟩ ⟨hi, hMl, hpos, hW1⟩
  simp only at hi hMl hpos hW1 ⊢
  refine Wp.seq ?_
  refine Wp.seq (Wp.region ?_)
  by_cases hgo : i < zs.length ∧ i < 60
  · skip
    obtain ⟨hi1, hi2⟩ := hgo
    refine OWp.evs 5 rfl ?_
    refine OWp.part 25 rfl (fun cc1 => ?_) (fun cc1 => absurd (of_decide_eq_false cc1) (by omega))
    have cc1 := of_decide_eq_true cc1
    refine OWp.evs 3 rfl ?_
    refine OWp.nil ?_
    refine Wp.cond rfl (fun cc2 => ?_) (fun cc2 => absurd (of_decide_eq_false cc2) (by omega))
    have cc2 := of_decide_eq_true cc2
    obtain ⟨b1, o1, c1, l1, t1, f1, hv1, hm1, hat⟩ := zi_at hz (by omega)
    cases hv1
    obtain ⟨d, hd⟩ : ∃ d, d = dueOf 1073741824 zs[i] := ⟨_, rfl⟩
    have hd1 : 0 < d := by rw [hd]; exact dueOf_pos _ _
    have hd2 : d ≤ 1073741824 := by rw [hd]; exact dueOf_le (by decide)
    refine Wp.skip ?_
    refine Wp.seq ?_
    refine Wp.block ?_
    refine Wp.seq (Wp.region ?_)
    refine OWp.evs 3 rfl ?_
    refine OWp.g rfl rfl (Gives.indexAddrSlice (i) rfl rfl rfl rfl rfl rfl (by omega)) ?_
    refine OWp.load (List.mem_append_right _ hm1) rfl rfl rfl rfl (hat i hi1) ?_
    refine OWp.evs 5 rfl ?_
    refine OWp.step rfl (Step.call rfl rfl rfl rfl rfl rfl ((putW (a := d) ((dueOf_eq rfl (by decide) (by decide)).trans (by rw [hd])) hW1 hd1 (by omega) (by omega) (by omega) ?_)))
    intro W2 hW2
    refine OWp.evs 5 rfl ?_
    refine OWp.nil ?_
    refine Wp.seq (Wp.region ?_)
    refine OWp.evs 2 rfl ?_
    refine OWp.nil ?_
    refine Wp.cond rfl (fun cc3 => absurd (ndT cc3) (by exact fun h => h rfl)) (fun cc3 => ?_)
    have cc3 := ndF cc3
    refine Wp.skip ?_
    refine Wp.region ?_
    refine OWp.evs 3 rfl ?_
    refine OWp.nil ?_
    refine ⟨(i + 1, _, W2), by simp only; omega, ⟨by simp only; omega, by simp only; rw [len_snoc, hMl], ?_, hW2⟩, .cons rfl (.cons rfl (.cons' rfl (int_eq (i64_inc (by omega))) (.nil _))), .refl _⟩
    intro t ht
    rcases List.mem_append.1 ht with ht | ht
    · exact hpos t ht
    · rw [List.mem_singleton.1 ht]; exact hd1
  by_cases hgo2 : i < zs.length
  · skip
    have hi3 : i = 60 := by omega
    refine OWp.evs 5 rfl ?_
    refine OWp.part 25 rfl (fun cc4 => ?_) (fun cc4 => absurd (of_decide_eq_false cc4) (by omega))
    have cc4 := of_decide_eq_true cc4
    refine OWp.evs 3 rfl ?_
    refine OWp.nil ?_
    refine Wp.cond rfl (fun cc5 => absurd (of_decide_eq_true cc5) (by omega)) (fun cc5 => ?_)
    have cc5 := of_decide_eq_false cc5
    refine Wp.exit ?_
    refine Wp.seq (Wp.region ?_)
    refine OWp.evs 1 rfl ?_
    refine OWp.step rfl (Step.call rfl rfl rfl rfl rfl rfl ((lenW hW1 (fun x hx => List.mem_append_left _ hx) ?_)))
    refine OWp.evs 1 rfl ?_
    refine OWp.nil ?_
    refine Wp.seq ?_
    refine Wp.seq (Wp.region ?_)
    refine OWp.evs 1 rfl ?_
    refine OWp.nil ?_
    refine Wp.block ?_
    refine Wp.loopS (α := Nat × List T × Nat × Ents) (fun z => 60 - z.1) (fun z => [(3, pt p), (7, .int .i64 (z.2.1.length : Int)), (49, .int .i64 (z.1 : Int))]) (fun z => z.2.2.2 ++ S) (fun z => z.1 ≤ 60 ∧ z.2.1.length + z.1 ≤ 60 ∧ (∀ t ∈ z.2.1, z.2.2.1 < t.due) ∧ Wh B p z.2.1 z.2.2.1 i z.2.2.2) (0, M, 0, W1) ?_ (.refl _) ⟨Nat.zero_le _, by show M.length + 0 ≤ 60; omega, hpos, hW1⟩ ?_
    · exact .cons rfl (.cons rfl (.cons rfl (.nil _)))
    rintro ⟨j, N, now, W2⟩ ⟨hj, hNl, hnow, hW2⟩
    simp only at hj hNl hnow hW2 ⊢
    refine Wp.seq (Wp.region ?_)
    refine OWp.evs 1 rfl ?_
    refine OWp.nil ?_
    refine Wp.seq ?_
    refine Wp.cond rfl (fun h3 => ?_) (fun h3 => ?_)
    · have h3 := of_decide_eq_true h3
      refine Wp.skip ?_
      refine Wp.seq ?_
      refine Wp.block ?_
      refine Wp.seq (Wp.region ?_)
      refine OWp.evs 1 rfl ?_
      refine OWp.step rfl (Step.call rfl rfl rfl rfl rfl rfl ((nextW hW2 (by omega) ?_)))
      intro t b hc
      rcases hc with ⟨rfl, rfl, rfl⟩ | ⟨rfl, ht, hmin⟩
      · skip
        refine OWp.evs 5 rfl ?_
        refine OWp.nil ?_
        refine Wp.seq ?_
        refine Wp.seq (Wp.region ?_)
        refine OWp.evs 2 rfl ?_
        refine OWp.nil ?_
        refine Wp.cond rfl (fun cc6 => ?_) (fun cc6 => (by contradiction))
        refine Wp.seq (Wp.region ?_)
        refine OWp.evs 3 rfl ?_
        refine OWp.part 60 rfl (fun cc7 => ?_) (fun cc7 => absurd (of_decide_eq_false cc7) (by exact fun h => h rfl))
        have cc7 := of_decide_eq_true cc7
        refine OWp.evs 1 rfl ?_
        refine OWp.step rfl (Step.call rfl rfl rfl rfl rfl rfl ((lenW hW2 (fun x hx => List.mem_append_left _ hx) ?_)))
        refine OWp.evs 3 rfl ?_
        refine OWp.nil ?_
        refine Wp.ret ⟨trivial, _, ⟨_, _, rfl, rfl, rfl⟩, ?_⟩
        rfl
      have hdt := hnow t ht
      have hft := hW2.fit t ht
      have e1 : told N (t.due - 1) = [] := told_none fun u hu => by have := hmin u hu; omega
      have e2 : left N (t.due - 1) = N := left_all fun u hu => by have := hmin u hu; omega
      refine OWp.evs 5 rfl ?_
      refine OWp.nil ?_
      refine Wp.seq ?_
      refine Wp.seq (Wp.region ?_)
      refine OWp.evs 2 rfl ?_
      refine OWp.nil ?_
      refine Wp.cond rfl (fun cc8 => (by contradiction)) (fun cc8 => ?_)
      refine Wp.skip ?_
      refine Wp.seq (Wp.region ?_)
      refine OWp.evs 3 rfl ?_
      refine OWp.step rfl (Step.call rfl rfl rfl rfl rfl rfl ((advW (to := t.due - 1) (by rw [i64_id] <;> omega) hW2 (by omega) (by omega) (by omega) ?_)))
      rw [e1, e2]
      intro W3 ov1 oe1 hW3 ho1
      obtain ⟨oa1, oc1, rfl⟩ := ho1.reads.form
      refine OWp.evs 5 rfl ?_
      refine OWp.nil ?_
      refine Wp.seq (Wp.region ?_)
      refine OWp.evs 2 rfl ?_
      refine OWp.step rfl (Step.call rfl rfl rfl rfl rfl rfl ((advW (to := t.due) rfl hW3 (by omega) (by omega) (by omega) ?_)))
      intro W4 ov2 oe2 hW4 ho2
      obtain ⟨oa2, oc2, rfl⟩ := ho2.reads.form
      have h5 : 0 < (told N t.due).length := List.length_pos_iff.2 (told_some ht (Nat.le_refl _))
      have h6 := told_left_len N t.due
      refine OWp.evs 5 rfl ?_
      refine OWp.nil ?_
      refine Wp.seq ?_
      refine Wp.seq (Wp.region ?_)
      refine OWp.evs 3 rfl ?_
      refine OWp.part 80 rfl (fun cc9 => absurd (ndT cc9) (by exact fun h => h rfl)) (fun cc9 => ?_)
      have cc9 := ndF cc9
      refine OWp.evs 4 rfl ?_
      refine OWp.part 84 rfl (fun cc10 => absurd (ndT cc10) (by exact fun h => h rfl)) (fun cc10 => ?_)
      have cc10 := ndF cc10
      refine OWp.evs 5 rfl ?_
      refine OWp.part 89 rfl (fun cc11 => absurd (ndT cc11) (by exact fun h => h rfl)) (fun cc11 => ?_)
      have cc11 := ndF cc11
      refine OWp.evs 4 rfl ?_
      refine OWp.nil ?_
      refine Wp.cond rfl (fun cc12 => absurd (of_decide_eq_true cc12) (by omega)) (fun cc12 => ?_)
      have cc12 := of_decide_eq_false cc12
      refine Wp.skip ?_
      refine Wp.drop (S' := W4 ++ S) ((List.Sublist.refl _).append ((List.sublist_append_right _ _).trans (List.sublist_append_right _ _))) ?_
      refine Wp.region ?_
      refine OWp.evs 5 rfl ?_
      refine OWp.nil ?_
      refine Wp.region ?_
      refine OWp.evs 2 rfl ?_
      refine OWp.nil ?_
      refine ⟨(j + 1, left N t.due, t.due, W4), by simp only; omega, ⟨by simp only; omega, by simp only; omega, left_late N t.due, hW4⟩, .cons rfl (.cons' rfl (int_eq (by simp only; rw [i64_id] <;> omega)) (.cons' rfl (int_eq (i64_inc (by omega))) (.nil _))), .refl _⟩
    have h3 := of_decide_eq_false h3
    obtain rfl : j = 60 := by omega
    have hN0 : N = [] := List.eq_nil_of_length_eq_zero (by omega)
    subst hN0
    refine Wp.exit ?_
    refine Wp.seq (Wp.region ?_)
    refine OWp.evs 3 rfl ?_
    refine OWp.part 101 rfl (fun cc13 => ?_) (fun cc13 => absurd (of_decide_eq_false cc13) (by exact fun h => h rfl))
    have cc13 := of_decide_eq_true cc13
    refine OWp.evs 1 rfl ?_
    refine OWp.step rfl (Step.call rfl rfl rfl rfl rfl rfl ((lenW hW2 (fun x hx => List.mem_append_left _ hx) ?_)))
    refine OWp.evs 3 rfl ?_
    refine OWp.nil ?_
    refine Wp.ret ⟨trivial, _, ⟨_, _, rfl, rfl, rfl⟩, ?_⟩
    rfl
  refine OWp.evs 5 rfl ?_
  refine OWp.part 25 rfl (fun cc14 => absurd (of_decide_eq_true cc14) (by omega)) (fun cc14 => ?_)
  have cc14 := of_decide_eq_false cc14
  refine OWp.evs 3 rfl ?_
  refine OWp.nil ?_
  refine Wp.cond rfl (fun c => nomatch c) (fun _ => ?_)
  refine Wp.exit ?_
  refine Wp.seq (Wp.region ?_)
  refine OWp.evs 1 rfl ?_
  refine OWp.step rfl (Step.call rfl rfl rfl rfl rfl rfl ((lenW hW1 (fun x hx => List.mem_append_left _ hx) ?_)))
  refine OWp.evs 1 rfl ?_
  refine OWp.nil ?_
  refine Wp.seq ?_
  refine Wp.seq (Wp.region ?_)
  refine OWp.evs 1 rfl ?_
  refine OWp.nil ?_
  refine Wp.block ?_
  refine Wp.loopS (α := Nat × List T × Nat × Ents) (fun z => 60 - z.1) (fun z => [(3, pt p), (7, .int .i64 (z.2.1.length : Int)), (49, .int .i64 (z.1 : Int))]) (fun z => z.2.2.2 ++ S) (fun z => z.1 ≤ 60 ∧ z.2.1.length + z.1 ≤ 60 ∧ (∀ t ∈ z.2.1, z.2.2.1 < t.due) ∧ Wh B p z.2.1 z.2.2.1 i z.2.2.2) (0, M, 0, W1) ?_ (.refl _) ⟨Nat.zero_le _, by show M.length + 0 ≤ 60; omega, hpos, hW1⟩ ?_
  · exact .cons rfl (.cons rfl (.cons rfl (.nil _)))
  rintro ⟨j, N, now, W2⟩ ⟨hj, hNl, hnow, hW2⟩
  simp only at hj hNl hnow hW2 ⊢
  refine Wp.seq (Wp.region ?_)
  refine OWp.evs 1 rfl ?_
  refine OWp.nil ?_
  refine Wp.seq ?_
  refine Wp.cond rfl (fun h3 => ?_) (fun h3 => ?_)
  · have h3 := of_decide_eq_true h3
    refine Wp.skip ?_
    refine Wp.seq ?_
    refine Wp.block ?_
    refine Wp.seq (Wp.region ?_)
    refine OWp.evs 1 rfl ?_
    refine OWp.step rfl (Step.call rfl rfl rfl rfl rfl rfl ((nextW hW2 (by omega) ?_)))
    intro t b hc
    rcases hc with ⟨rfl, rfl, rfl⟩ | ⟨rfl, ht, hmin⟩
    · skip
      refine OWp.evs 5 rfl ?_
      refine OWp.nil ?_
      refine Wp.seq ?_
      refine Wp.seq (Wp.region ?_)
      refine OWp.evs 2 rfl ?_
      refine OWp.nil ?_
      refine Wp.cond rfl (fun cc15 => ?_) (fun cc15 => (by contradiction))
      refine Wp.seq (Wp.region ?_)
      refine OWp.evs 3 rfl ?_
      refine OWp.part 60 rfl (fun cc16 => ?_) (fun cc16 => absurd (of_decide_eq_false cc16) (by exact fun h => h rfl))
      have cc16 := of_decide_eq_true cc16
      refine OWp.evs 1 rfl ?_
      refine OWp.step rfl (Step.call rfl rfl rfl rfl rfl rfl ((lenW hW2 (fun x hx => List.mem_append_left _ hx) ?_)))
      refine OWp.evs 3 rfl ?_
      refine OWp.nil ?_
      refine Wp.ret ⟨trivial, _, ⟨_, _, rfl, rfl, rfl⟩, ?_⟩
      rfl
    have hdt := hnow t ht
    have hft := hW2.fit t ht
    have e1 : told N (t.due - 1) = [] := told_none fun u hu => by have := hmin u hu; omega
    have e2 : left N (t.due - 1) = N := left_all fun u hu => by have := hmin u hu; omega
    refine OWp.evs 5 rfl ?_
    refine OWp.nil ?_
    refine Wp.seq ?_
    refine Wp.seq (Wp.region ?_)
    refine OWp.evs 2 rfl ?_
    refine OWp.nil ?_
    refine Wp.cond rfl (fun cc17 => (by contradiction)) (fun cc17 => ?_)
    refine Wp.skip ?_
    refine Wp.seq (Wp.region ?_)
    refine OWp.evs 3 rfl ?_
    refine OWp.step rfl (Step.call rfl rfl rfl rfl rfl rfl ((advW (to := t.due - 1) (by rw [i64_id] <;> omega) hW2 (by omega) (by omega) (by omega) ?_)))
    rw [e1, e2]
    intro W3 ov1 oe1 hW3 ho1
    obtain ⟨oa1, oc1, rfl⟩ := ho1.reads.form
    refine OWp.evs 5 rfl ?_
    refine OWp.nil ?_
    refine Wp.seq (Wp.region ?_)
    refine OWp.evs 2 rfl ?_
    refine OWp.step rfl (Step.call rfl rfl rfl rfl rfl rfl ((advW (to := t.due) rfl hW3 (by omega) (by omega) (by omega) ?_)))
    intro W4 ov2 oe2 hW4 ho2
    obtain ⟨oa2, oc2, rfl⟩ := ho2.reads.form
    have h5 : 0 < (told N t.due).length := List.length_pos_iff.2 (told_some ht (Nat.le_refl _))
    have h6 := told_left_len N t.due
    refine OWp.evs 5 rfl ?_
    refine OWp.nil ?_
    refine Wp.seq ?_
    refine Wp.seq (Wp.region ?_)
    refine OWp.evs 3 rfl ?_
    refine OWp.part 80 rfl (fun cc18 => absurd (ndT cc18) (by exact fun h => h rfl)) (fun cc18 => ?_)
    have cc18 := ndF cc18
    refine OWp.evs 4 rfl ?_
    refine OWp.part 84 rfl (fun cc19 => absurd (ndT cc19) (by exact fun h => h rfl)) (fun cc19 => ?_)
    have cc19 := ndF cc19
    refine OWp.evs 5 rfl ?_
    refine OWp.part 89 rfl (fun cc20 => absurd (ndT cc20) (by exact fun h => h rfl)) (fun cc20 => ?_)
    have cc20 := ndF cc20
    refine OWp.evs 4 rfl ?_
    refine OWp.nil ?_
    refine Wp.cond rfl (fun cc21 => absurd (of_decide_eq_true cc21) (by omega)) (fun cc21 => ?_)
    have cc21 := of_decide_eq_false cc21
    refine Wp.skip ?_
    refine Wp.drop (S' := W4 ++ S) ((List.Sublist.refl _).append ((List.sublist_append_right _ _).trans (List.sublist_append_right _ _))) ?_
    refine Wp.region ?_
    refine OWp.evs 5 rfl ?_
    refine OWp.nil ?_
    refine Wp.region ?_
    refine OWp.evs 2 rfl ?_
    refine OWp.nil ?_
    refine ⟨(j + 1, left N t.due, t.due, W4), by simp only; omega, ⟨by simp only; omega, by simp only; omega, left_late N t.due, hW4⟩, .cons rfl (.cons' rfl (int_eq (by simp only; rw [i64_id] <;> omega)) (.cons' rfl (int_eq (i64_inc (by omega))) (.nil _))), .refl _⟩
  have h3 := of_decide_eq_false h3
  obtain rfl : j = 60 := by omega
  have hN0 : N = [] := List.eq_nil_of_length_eq_zero (by omega)
  subst hN0
  refine Wp.exit ?_
  refine Wp.seq (Wp.region ?_)
  refine OWp.evs 3 rfl ?_
  refine OWp.part 101 rfl (fun cc22 => ?_) (fun cc22 => absurd (of_decide_eq_false cc22) (by exact fun h => h rfl))
  have cc22 := of_decide_eq_true cc22
  refine OWp.evs 1 rfl ?_
  refine OWp.step rfl (Step.call rfl rfl rfl rfl rfl rfl ((lenW hW2 (fun x hx => List.mem_append_left _ hx) ?_)))
  refine OWp.evs 3 rfl ?_
  refine OWp.nil ?_
  refine Wp.ret ⟨trivial, _, ⟨_, _, rfl, rfl, rfl⟩, ?_⟩
  rfl
end
end Go.Proofs.E
