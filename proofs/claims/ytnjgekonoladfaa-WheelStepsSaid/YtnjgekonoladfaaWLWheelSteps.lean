/- What functions of the given program do, one after the other, told by that layer. -/
import Derived.Test.YtnjgekonoladfaaWWheelJ
namespace Go.Proofs.E
open Go.Lg Go.Whl
set_option maxRecDepth 100000

def stepM (zs : List Int) (n : Nat) : List T := (List.range n).map fun (j : Nat) => ⟨dueOf 1073741824 (zs.getD j 0), (j : Int), j + 1⟩
theorem stepM_succ {zs : List Int} {n : Nat} (h : n < zs.length) : stepM zs (n + 1) = stepM zs n ++ [⟨dueOf 1073741824 zs[n], (n : Int), n + 1⟩] := by simp [stepM, List.range_succ, h]
theorem stepM_len (zs : List Int) (n : Nat) : (stepM zs n).length = n := by simp [stepM]
theorem stepM_mem {zs : List Int} {n : Nat} (hn : n ≤ zs.length) {t : T} (h : t ∈ stepM zs n) : ∃ j, ∃ hj : j < zs.length, t.id = (j : Int) ∧ t.due = dueOf 1073741824 zs[j] := by
  obtain ⟨j, hj, rfl⟩ := List.mem_map.1 h
  have hj2 := List.mem_range.1 hj
  have hj3 : j < zs.length := by omega
  exact ⟨j, hj3, rfl, by simp [hj3]⟩
theorem stepM_pos {zs : List Int} {n : Nat} {t : T} (h : t ∈ stepM zs n) : 0 < t.due := by
  obtain ⟨j, hj, rfl⟩ := List.mem_map.1 h
  exact dueOf_pos _ _

section
variable {B : Nat} {S : Ents}
set_option maxHeartbeats 4000000 in
theorem wheelStepsW {a1 a2 : Option Addr} {len1 cap1 len2 cap2 : Nat} (h1 : Rd Try.prog S 22 [.slice a1 len1 cap1]) (h2 : Rd Try.prog S 22 [.slice a2 len2 cap2]) :
    CallWp Try.prog B 3 #[.slice a1 len1 cap1, .slice a2 len2 cap2] (fun v _ => v = .bool true) S := by
  obtain ⟨zs, hz, rfl, hlen1⟩ := rdInts h1
  obtain ⟨ss, hs, rfl, hlen2⟩ := rdInts h2
  refine CallWp.enter (args := [_, _]) Try.func3 rfl Try.ntmps3 rfl ?_
  refine Wp.seq (Wp.region ?_)
  refine OWp.evs 1 rfl ?_
  refine OWp.nil ?_
  refine Wp.seq (Wp.region ?_)
  refine OWp.step rfl (Step.call rfl rfl rfl rfl rfl rfl ((newW ?_)))
  intro pa Wa hWa
  refine OWp.step rfl (Step.call rfl rfl rfl rfl rfl rfl ((newW ?_)))
  intro pb Wb hWb
  refine OWp.evs 2 rfl ?_
  refine OWp.nil ?_
  refine Wp.seq ?_
  refine Wp.seq (Wp.region ?_)
  refine OWp.evs 3 rfl ?_
  refine OWp.evs 4 rfl ?_
  refine OWp.step rfl (Step.call rfl rfl rfl rfl rfl rfl ((worksC ?_)))
  refine OWp.evs 2 rfl ?_
  refine OWp.nil ?_
  refine Wp.cond rfl (fun c => nomatch c) (fun _ => ?_)
  refine Wp.skip ?_
  refine Wp.seq (Wp.region ?_)
  refine OWp.evs 1 rfl ?_
  refine OWp.nil ?_
  refine Wp.seq ?_
  refine Wp.seq (Wp.region ?_)
  refine OWp.evs 1 rfl ?_
  refine OWp.nil ?_
  refine Wp.block ?_
  refine Wp.loopS (α := Nat × Nat × Ents × Ents) (fun z => 100 - z.1) (fun z => [(0, .slice a1 zs.length cap1), (1, .slice a2 ss.length cap2), (5, pt pa), (6, pt pb), (7, .int .i64 (z.2.1 : Int)), (8, .int .i64 (z.1 : Int))]) (fun z => z.2.2.2 ++ (z.2.2.1 ++ S)) (fun z => z.1 ≤ 100 ∧ z.1 ≤ zs.length ∧ (∀ t ∈ stepM zs z.1, t.due ≤ z.2.1) ∧ z.2.1 ≤ 1073741824 ∧ Wh B pa (stepM zs z.1) 0 z.1 z.2.2.1 ∧ Wh B pb (stepM zs z.1) 0 z.1 z.2.2.2) (0, 0, Wa, Wb) ?_ (.refl _) ⟨Nat.zero_le _, Nat.zero_le _, (fun _ h => nomatch h), Nat.zero_le _, hWa, hWb⟩ ?_
  · exact .cons rfl (.cons rfl (.cons rfl (.cons rfl (.cons rfl (.cons rfl (.nil _))))))
  rintro ⟨i, most, Wa1, Wb1⟩ ⟨hi, hiz, hmost, hm2, hWa1, hWb1⟩
  simp only at hi hiz hmost hm2 hWa1 hWb1 ⊢
  refine Wp.seq ?_
  refine Wp.seq (Wp.region ?_)
  by_cases hgo : i < zs.length ∧ i < 100
  · skip
    obtain ⟨hi1, hi2⟩ := hgo
    refine OWp.evs 5 rfl ?_
    refine OWp.part 41 rfl (fun cc1 => ?_) (fun cc1 => absurd (of_decide_eq_false cc1) (by omega))
    have cc1 := of_decide_eq_true cc1
    refine OWp.evs 3 rfl ?_
    refine OWp.nil ?_
    refine Wp.cond rfl (fun cc2 => ?_) (fun cc2 => absurd (of_decide_eq_false cc2) (by omega))
    have cc2 := of_decide_eq_true cc2
    obtain ⟨b1, o1, c1, l1, t1, f1, hv1, hm1, hat⟩ := zi_at hz (by omega)
    cases hv1
    obtain ⟨d, hd⟩ : ∃ d, d = dueOf 1073741824 zs[i] := ⟨_, rfl⟩
    have hd1 : 0 < d := by rw [hd]; exact dueOf_pos _ _
    have hd2 : d ≤ 1073741824 := by rw [hd]; exact dueOf_le (by decide)
    have hde : IntKind.i64.wrap (1 + IntKind.i64.wrap ((IntKind.u64.wrap zs[i]).tmod 1073741824)) = (d : Int) := by rw [hd]; exact dueOf_eq rfl (by decide) (by decide)
    have hsucc := stepM_succ hi1
    rw [← hd] at hsucc
    refine Wp.skip ?_
    refine Wp.seq ?_
    refine Wp.block ?_
    refine Wp.seq (Wp.region ?_)
    refine OWp.evs 2 rfl ?_
    refine OWp.g rfl rfl (Gives.indexAddrSlice (i) rfl rfl rfl rfl rfl rfl (by omega)) ?_
    refine OWp.load (List.mem_append_right _ (List.mem_append_right _ hm1)) rfl rfl rfl rfl (hat i hi1) ?_
    refine OWp.evs 5 rfl ?_
    refine OWp.nil ?_
    refine Wp.seq (Wp.region ?_)
    refine OWp.evs 4 rfl ?_
    refine OWp.nil ?_
    refine Wp.seq ?_
    refine Wp.seq (Wp.region ?_)
    refine OWp.evs 3 rfl ?_
    refine OWp.step rfl (Step.call rfl rfl rfl rfl rfl rfl ((CallWp.permS (List.perm_append_comm_assoc _ _ _) (putW (a := d) hde hWa1 hd1 (by omega) (by rw [stepM_len]; omega) (by omega) ?_))))
    rw [← hsucc]
    intro Wa2 hWa2
    refine OWp.evs 5 rfl ?_
    refine OWp.nil ?_
    refine Wp.seq (Wp.region ?_)
    refine OWp.evs 2 rfl ?_
    refine OWp.nil ?_
    refine Wp.cond rfl (fun cc3 => absurd (ndT cc3) (by exact fun h => h rfl)) (fun cc3 => ?_)
    have cc3 := ndF cc3
    refine Wp.skip ?_
    refine Wp.seq (Wp.region ?_)
    refine OWp.evs 3 rfl ?_
    refine OWp.step rfl (Step.call rfl rfl rfl rfl rfl rfl ((CallWp.permS (List.perm_append_comm_assoc _ _ _) (putW (a := d) hde hWb1 hd1 (by omega) (by rw [stepM_len]; omega) (by omega) ?_))))
    rw [← hsucc]
    intro Wb2 hWb2
    refine OWp.evs 5 rfl ?_
    refine OWp.nil ?_
    refine Wp.seq (Wp.region ?_)
    refine OWp.evs 2 rfl ?_
    refine OWp.nil ?_
    refine Wp.cond rfl (fun cc4 => absurd (ndT cc4) (by exact fun h => h rfl)) (fun cc4 => ?_)
    have cc4 := ndF cc4
    refine Wp.skip ?_
    refine Wp.region ?_
    refine OWp.evs 3 rfl ?_
    refine OWp.nil ?_
    refine ⟨(i + 1, max most d, Wa2, Wb2), by simp only; omega, ⟨by simp only; omega, by simp only; omega, ?_, by simp only; omega, hWa2, hWb2⟩, .cons rfl (.cons rfl (.cons rfl (.cons rfl (.cons' rfl (int_eq ?_) (.cons' rfl (int_eq (i64_inc (by omega))) (.nil _)))))), .refl _⟩
    · intro t ht
      simp only at ht ⊢
      rw [hsucc] at ht
      rcases List.mem_append.1 ht with ht | ht
      · have := hmost t ht; omega
      · rw [List.mem_singleton.1 ht]; show d ≤ _; omega
    · simp only
      rw [show IntKind.i64.wrap (1 + IntKind.i64.wrap ((IntKind.u64.wrap zs[i]).tmod (Int.ofNat (1073741823 + 1)))) = (d : Int) from hde]
      split <;> omega
  by_cases hlt : i < zs.length
  · skip
    refine OWp.evs 5 rfl ?_
    refine OWp.part 41 rfl (fun cc5 => ?_) (fun cc5 => absurd (of_decide_eq_false cc5) (by omega))
    have cc5 := of_decide_eq_true cc5
    refine OWp.evs 3 rfl ?_
    refine OWp.nil ?_
    refine Wp.cond rfl (fun cc6 => absurd (of_decide_eq_true cc6) (by omega)) (fun cc6 => ?_)
    have cc6 := of_decide_eq_false cc6
    refine Wp.exit ?_
    refine Wp.seq (Wp.region ?_)
    refine OWp.evs 2 rfl ?_
    refine OWp.step rfl (Step.call rfl rfl rfl rfl rfl rfl ((CallWp.permS (List.perm_append_comm_assoc _ _ _) (advW (to := most) rfl hWa1 (by omega) (Nat.zero_le _) (by omega) ?_))))
    intro Wa2 va oa hWa2 hoa
    obtain ⟨M, hM⟩ : ∃ M, M = stepM zs i := ⟨_, rfl⟩
    have hMl : M.length = i := by rw [hM, stepM_len]
    have hMm : ∀ t ∈ M, ∃ j, ∃ hj : j < zs.length, t.id = (j : Int) ∧ t.due = dueOf 1073741824 zs[j] := fun t ht => stepM_mem hiz (by rw [← hM]; exact ht)
    have hMp : ∀ t ∈ M, 0 < t.due := fun t ht => stepM_pos (by rw [← hM]; exact ht)
    rw [← hM] at hmost hWb1 hWa2 hoa
    have hall := told_len hmost
    have hnone := left_none hmost
    rw [hnone] at hWa2
    obtain ⟨ga, gc, rfl⟩ := hoa.reads.form
    refine OWp.evs 5 rfl ?_
    refine OWp.nil ?_
    refine Wp.seq ?_
    refine Wp.seq (Wp.region ?_)
    refine OWp.evs 3 rfl ?_
    refine OWp.part 84 rfl (fun cc7 => absurd (ndT cc7) (by exact fun h => h rfl)) (fun cc7 => ?_)
    have cc7 := ndF cc7
    refine OWp.evs 7 rfl ?_
    refine OWp.nil ?_
    refine Wp.cond rfl (fun cc8 => absurd (ndT cc8) (by omega)) (fun cc8 => ?_)
    have cc8 := ndF cc8
    obtain ⟨last, hlast⟩ : ∃ last, last = min ss.length 100 := ⟨_, rfl⟩
    refine Wp.skip ?_
    refine Wp.seq (Wp.region ?_)
    refine OWp.evs 1 rfl ?_
    refine OWp.nil ?_
    refine Wp.seq ?_
    refine Wp.seq (Wp.region ?_)
    refine OWp.evs 1 rfl ?_
    refine OWp.nil ?_
    refine Wp.block ?_
    refine Wp.loopS (α := Nat × Nat × Value × Ents × Ents) (fun z => last + 1 - z.1) (fun z => [(0, .slice a1 zs.length cap1), (1, .slice a2 ss.length cap2), (5, pt pa), (6, pt pb), (7, .int .i64 (most : Int)), (14, .slice ga (told M most).length gc), (16, z.2.2.1), (17, .int .i64 (z.1 : Int))]) (fun z => z.2.2.2.1 ++ (z.2.2.2.2 ++ (Wa2 ++ (oa ++ S)))) (fun z => z.1 ≤ last + 1 ∧ z.2.1 ≤ most ∧ (z.1 = last + 1 → z.2.1 = most) ∧ Own B 3 1 z.2.2.1 (told M z.2.1).length (zi (told M z.2.1)) z.2.2.2.1 ∧ Wh B pb (left M z.2.1) z.2.1 i z.2.2.2.2) (0, 0, .slice none 0 0, [], Wb1) ?_ (((List.perm_append_comm_assoc oa Wb1 S).append_left Wa2).trans (List.perm_append_comm_assoc Wa2 Wb1 (oa ++ S))) ⟨Nat.zero_le _, Nat.zero_le _, (fun h => by simp only at h; omega), ?_, ?_⟩ ?_
    · exact .cons rfl (.cons rfl (.cons rfl (.cons rfl (.cons rfl (.cons rfl (.cons rfl (.cons rfl (.nil _))))))))
    · simp only; rw [told_none hMp]; exact Own.nil _ _ _
    · simp only; rw [left_all hMp]; exact hWb1
    rintro ⟨k, now, vo, oe, Wb2⟩ ⟨hk, hnow, hend, ho, hWb2⟩
    simp only at hk hnow hend ho hWb2 ⊢
    refine Wp.seq ?_
    refine Wp.seq (Wp.region ?_)
    by_cases hgo : k ≤ last
    · skip
      refine OWp.evs 5 rfl ?_
      refine OWp.part 96 rfl (fun cc9 => ?_) (fun cc9 => absurd (of_decide_eq_false cc9) (by omega))
      have cc9 := of_decide_eq_true cc9
      refine OWp.evs 3 rfl ?_
      refine OWp.nil ?_
      refine Wp.cond rfl (fun cc10 => ?_) (fun cc10 => absurd (of_decide_eq_false cc10) (by omega))
      have cc10 := of_decide_eq_true cc10
      refine Wp.skip ?_
      refine Wp.seq ?_
      refine Wp.block ?_
      refine Wp.seq (Wp.region ?_)
      refine OWp.evs 2 rfl ?_
      refine OWp.nil ?_
      refine Wp.seqS (α := Nat) (fun z => [(0, .slice a1 zs.length cap1), (1, .slice a2 ss.length cap2), (5, pt pa), (6, pt pb), (7, .int .i64 (most : Int)), (14, .slice ga (told M most).length gc), (16, vo), (17, .int .i64 (k : Int)), (18, .int .i64 (z : Int))]) (fun _ => oe ++ (Wb2 ++ (Wa2 ++ (oa ++ S)))) (fun z => now ≤ z ∧ z ≤ most ∧ (k = last → z = most)) ?_ ?_
      · skip
        refine Wp.seq (Wp.region ?_)
        by_cases hin : k < ss.length ∧ k < 100
        · skip
          refine OWp.evs 5 rfl ?_
          refine OWp.part 107 rfl (fun cc11 => ?_) (fun cc11 => absurd (of_decide_eq_false cc11) (by omega))
          have cc11 := of_decide_eq_true cc11
          refine OWp.evs 3 rfl ?_
          refine OWp.nil ?_
          refine Wp.cond rfl (fun cc12 => ?_) (fun cc12 => absurd (of_decide_eq_false cc12) (by omega))
          have cc12 := of_decide_eq_true cc12
          obtain ⟨b1, o1, c1, l1, t1, f1, hv1, hm1, hat⟩ := zi_at hs (by omega)
          cases hv1
          have hsd := tmod_eq (m := 268435456) (x := ss[k]) (by decide) (by decide)
          have hsd2 : (IntKind.u64.wrap ss[k]).toNat % 268435456 < 268435456 := Nat.mod_lt _ (by decide)
          obtain ⟨sd, hsde⟩ : ∃ sd, sd = (IntKind.u64.wrap ss[k]).toNat % 268435456 := ⟨_, rfl⟩
          rw [← hsde] at hsd hsd2
          refine Wp.regionDraw [0, 1, 3, 4, 5, 6, 7, 8, 9, 2, 10, 11, 12] [2] rfl (by decide +kernel) ?_
          refine DWp.evs 4 rfl ?_
          refine DWp.g rfl rfl rfl rfl (Gives.indexAddrSlice (k) rfl rfl rfl rfl rfl rfl (by omega)) ?_
          refine DWp.load (List.mem_append_right _ (List.mem_append_right _ (List.mem_append_right _ (List.mem_append_right _ hm1)))) rfl rfl rfl rfl rfl rfl (hat k (by omega)) ?_
          refine DWp.evs 3 rfl ?_
          refine DWp.stepGrow rfl rfl rfl (Step.call rfl rfl rfl rfl rfl rfl ((nowW hWb2 (fun x hx => List.mem_append_right _ (List.mem_append_left _ hx)) ?_)))
          refine ⟨fun _ hy => hy, ?_⟩
          refine DWp.evs 3 rfl ?_
          refine DWp.nil ?_
          refine ⟨min most (now + sd), ⟨by omega, by omega, by omega⟩, .cons rfl (.cons rfl (.cons rfl (.cons rfl (.cons rfl (.cons rfl (.cons rfl (.cons rfl (.cons' rfl (int_eq ?_) (.nil _))))))))), .refl _⟩
          rw [show IntKind.i64.wrap ((IntKind.u64.wrap ss[k]).tmod (Int.ofNat (268435455 + 1))) = (sd : Int) from hsd, i64_id (by omega) (by omega)]
          split <;> omega
        by_cases hin2 : k < ss.length
        · skip
          refine OWp.evs 5 rfl ?_
          refine OWp.part 107 rfl (fun cc13 => ?_) (fun cc13 => absurd (of_decide_eq_false cc13) (by omega))
          have cc13 := of_decide_eq_true cc13
          refine OWp.evs 3 rfl ?_
          refine OWp.nil ?_
          refine Wp.cond rfl (fun cc14 => absurd (of_decide_eq_true cc14) (by omega)) (fun cc14 => ?_)
          have cc14 := of_decide_eq_false cc14
          refine Wp.skip ?_
          exact ⟨most, ⟨hnow, Nat.le_refl _, fun _ => rfl⟩, .cons rfl (.cons rfl (.cons rfl (.cons rfl (.cons rfl (.cons rfl (.cons rfl (.cons rfl (.cons rfl (.nil _))))))))), .refl _⟩
        refine OWp.evs 5 rfl ?_
        refine OWp.part 107 rfl (fun cc15 => absurd (of_decide_eq_true cc15) (by omega)) (fun cc15 => ?_)
        have cc15 := of_decide_eq_false cc15
        refine OWp.evs 3 rfl ?_
        refine OWp.nil ?_
        refine Wp.cond rfl (fun c => nomatch c) (fun _ => ?_)
        refine Wp.skip ?_
        exact ⟨most, ⟨hnow, Nat.le_refl _, fun _ => rfl⟩, .cons rfl (.cons rfl (.cons rfl (.cons rfl (.cons rfl (.cons rfl (.cons rfl (.cons rfl (.cons rfl (.nil _))))))))), .refl _⟩
      rintro to ⟨hto1, hto2, hto3⟩
      refine Wp.seq (Wp.region ?_)
      refine OWp.evs 1 rfl ?_
      refine OWp.step rfl (Step.call rfl rfl rfl rfl rfl rfl ((nowW hWb2 (fun x hx => List.mem_append_right _ (List.mem_append_left _ hx)) ?_)))
      refine OWp.evs 1 rfl ?_
      refine OWp.nil ?_
      refine Wp.seq (Wp.region ?_)
      refine OWp.evs 2 rfl ?_
      refine OWp.step rfl (Step.call rfl rfl rfl rfl rfl rfl ((CallWp.permS (List.perm_append_comm_assoc _ _ _) (advW (to := to) rfl hWb2 (by omega) hto1 (by omega) ?_))))
      intro Wb3 vb ob hWb3 hob
      obtain ⟨xa, xc, rfl⟩ := hob.reads.form
      have hleft2 : left (left M now) to = left M to := left_on hto1
      have hon := told_on (M := M) hto1
      have htl := told_left_len M to
      obtain ⟨l, hl⟩ : ∃ l, l = told (left M now) to := ⟨_, rfl⟩
      have hlm : ∀ x ∈ l, ∃ j, ∃ hj : j < zs.length, x = (j : Int) ∧ dueOf 1073741824 zs[j] ≤ to ∧ now < dueOf 1073741824 zs[j] := by
        intro x hx
        rw [hl] at hx
        obtain ⟨t, ht, h5, h6⟩ := mem_told hx
        obtain ⟨j, hj, h7, h8⟩ := hMm t (List.mem_filter.1 ht).1
        have h9 := left_late M now t ht
        exact ⟨j, hj, h6.symm.trans h7, by omega, by omega⟩
      rw [← hl] at hob hon
      rw [hleft2] at hWb3
      rw [← hl]
      have hll : (told M now).length + l.length ≤ 100 := by
        have := congrArg List.length hon
        rw [List.length_append] at this
        omega
      refine OWp.evs 5 rfl ?_
      refine OWp.nil ?_
      refine Wp.seq ?_
      refine Wp.seq (Wp.region ?_)
      refine OWp.evs 2 rfl ?_
      refine OWp.nil ?_
      refine Wp.cond rfl (fun cc16 => absurd (ndT cc16) (by exact fun h => h rfl)) (fun cc16 => ?_)
      have cc16 := ndF cc16
      refine Wp.skip ?_
      refine Wp.seq ?_
      refine Wp.seq (Wp.region ?_)
      refine OWp.evs 3 rfl ?_
      refine OWp.nil ?_
      refine Wp.block ?_
      refine Wp.loopS (α := Nat) (fun j => l.length - j) (fun j => [(0, .slice a1 zs.length cap1), (1, .slice a2 ss.length cap2), (5, pt pa), (6, pt pb), (7, .int .i64 (most : Int)), (14, .slice ga (told M most).length gc), (16, vo), (17, .int .i64 (k : Int)), (18, .int .i64 (to : Int)), (19, .int .i64 (now : Int)), (20, .slice xa l.length xc), (133, .slice xa l.length xc), (134, .int .i64 (l.length : Int)), (135, .int .i64 (j : Int))]) (fun _ => Wb3 ++ (ob ++ (oe ++ (Wa2 ++ (oa ++ S))))) (fun j => j ≤ l.length) 0 ?_ (.refl _) (Nat.zero_le _) ?_
      · exact .cons rfl (.cons rfl (.cons rfl (.cons rfl (.cons rfl (.cons rfl (.cons rfl (.cons rfl (.cons rfl (.cons rfl (.cons rfl (.cons rfl (.cons rfl (.cons rfl (.nil _))))))))))))))
      rintro j hj
      refine Wp.seq (Wp.region ?_)
      refine OWp.evs 1 rfl ?_
      refine OWp.nil ?_
      refine Wp.seq ?_
      refine Wp.cond rfl (fun h7 => ?_) (fun h7 => ?_)
      · have h7 := of_decide_eq_true h7
        have hj2 : j < l.length := by omega
        obtain ⟨b2, o2, c2, l2, t2, f2, hv2, hm2', hat2⟩ := zi_at hob.reads (by omega)
        cases hv2
        obtain ⟨jj, hjj, hx, hd1, hd2⟩ := hlm l[j] (List.getElem_mem hj2)
        obtain ⟨b1, o1, c1, l1, t1, f1, hv1, hm1, hat⟩ := zi_at hz (by omega)
        cases hv1
        have hde : IntKind.i64.wrap (1 + IntKind.i64.wrap ((IntKind.u64.wrap zs[jj]).tmod (Int.ofNat (1073741823 + 1)))) = ((dueOf 1073741824 zs[jj] : Nat) : Int) := dueOf_eq rfl (by decide) (by decide)
        refine Wp.skip ?_
        refine Wp.seq ?_
        refine Wp.block ?_
        refine Wp.seq (Wp.region ?_)
        refine OWp.g rfl rfl (Gives.indexAddrSlice (j) rfl rfl rfl rfl rfl rfl (by omega)) ?_
        refine OWp.load (List.mem_append_right _ (List.mem_append_left _ hm2')) rfl rfl rfl rfl (hat2 j hj2) ?_
        refine OWp.evs 1 rfl ?_
        refine OWp.nil ?_
        refine Wp.seq (Wp.region ?_)
        refine OWp.evs 2 rfl ?_
        refine OWp.g rfl rfl (Gives.indexAddrSlice (jj) rfl rfl rfl rfl rfl hx (by omega)) ?_
        refine OWp.load (List.mem_append_right _ (List.mem_append_right _ (List.mem_append_right _ (List.mem_append_right _ (List.mem_append_right _ hm1))))) rfl rfl rfl rfl (hat jj hjj) ?_
        refine OWp.evs 5 rfl ?_
        refine OWp.nil ?_
        refine Wp.seq (Wp.region ?_)
        refine OWp.evs 4 rfl ?_
        refine OWp.part 150 rfl (fun cc17 => absurd (of_decide_eq_true cc17) (by rw [hde]; omega)) (fun cc17 => ?_)
        have cc17 := of_decide_eq_false cc17
        refine OWp.evs 4 rfl ?_
        refine OWp.nil ?_
        refine Wp.cond rfl (fun cc18 => absurd (of_decide_eq_true cc18) (by rw [hde]; omega)) (fun cc18 => ?_)
        have cc18 := of_decide_eq_false cc18
        refine Wp.skip ?_
        refine Wp.region ?_
        refine OWp.evs 2 rfl ?_
        refine OWp.nil ?_
        exact ⟨j + 1, by omega, by omega, .cons rfl (.cons rfl (.cons rfl (.cons rfl (.cons rfl (.cons rfl (.cons rfl (.cons rfl (.cons rfl (.cons rfl (.cons rfl (.cons rfl (.cons rfl (.cons' rfl (int_eq (i64_inc (by omega))) (.nil _)))))))))))))), .refl _⟩
      have h7 := of_decide_eq_false h7
      refine Wp.exit ?_
      refine Wp.permS (((List.perm_append_comm_assoc ob oe _).append_left Wb3).trans (List.perm_append_comm_assoc Wb3 oe _)) ?_
      refine Wp.region ?_
      refine OWp.evs 2 rfl ?_
      refine OWp.step rfl (Step.appendAt [] rfl rfl rfl rfl rfl rfl (by decide) rfl rfl ho (hob.reads.mono fun x hx => List.mem_append_right _ (List.mem_append_right _ (List.mem_append_right _ (List.mem_append_left _ hx)))) (zi_one _) (by show (_ + _) * 8 ≤ _; omega) (by unfold maxLen; omega) ?_)
      intro vo2 oe2 ho2 _
      refine OWp.evs 1 rfl ?_
      refine OWp.nil ?_
      refine Wp.drop (S' := oe2 ++ (Wb3 ++ (Wa2 ++ (oa ++ S)))) ((List.Sublist.refl _).append ((List.Sublist.refl _).append (List.sublist_append_right _ _))) ?_
      refine Wp.region ?_
      refine OWp.evs 3 rfl ?_
      refine OWp.nil ?_
      refine ⟨(k + 1, to, vo2, oe2, Wb3), by simp only; omega, ⟨by simp only; omega, hto2, (fun h => by simp only at h ⊢; exact hto3 (by omega)), ?_, hWb3⟩, .cons rfl (.cons rfl (.cons rfl (.cons rfl (.cons rfl (.cons rfl (.cons rfl (.cons' rfl (int_eq (i64_inc (by omega))) (.nil _)))))))), .refl _⟩
      simp only
      rw [hon, List.length_append, zi_append]
      exact ho2
    obtain rfl : now = most := hend (by omega)
    rw [hnone] at hWb2
    by_cases hgo2 : k ≤ ss.length
    · skip
      refine OWp.evs 5 rfl ?_
      refine OWp.part 96 rfl (fun cc19 => ?_) (fun cc19 => absurd (of_decide_eq_false cc19) (by omega))
      have cc19 := of_decide_eq_true cc19
      refine OWp.evs 3 rfl ?_
      refine OWp.nil ?_
      refine Wp.cond rfl (fun cc20 => absurd (of_decide_eq_true cc20) (by omega)) (fun cc20 => ?_)
      have cc20 := of_decide_eq_false cc20
      refine Wp.exit ?_
      refine Wp.seq (Wp.region ?_)
      refine OWp.evs 2 rfl ?_
      refine OWp.step rfl (Step.call rfl rfl rfl rfl rfl rfl ((sameEq (ho.reads.mono fun x hx => List.mem_append_left _ hx) (hoa.reads.mono fun x hx => List.mem_append_right _ (List.mem_append_right _ (List.mem_append_right _ (List.mem_append_left _ hx)))) (by omega) ?_)))
      refine OWp.evs 1 rfl ?_
      refine OWp.part 162 rfl (fun cc21 => ?_) (fun cc21 => (by contradiction))
      refine OWp.evs 1 rfl ?_
      refine OWp.step rfl (Step.call rfl rfl rfl rfl rfl rfl ((lenW hWa2 (fun x hx => List.mem_append_right _ (List.mem_append_right _ (List.mem_append_left _ hx))) ?_)))
      refine OWp.evs 3 rfl ?_
      refine OWp.part 167 rfl (fun cc22 => ?_) (fun cc22 => absurd (of_decide_eq_false cc22) (by exact fun h => h rfl))
      have cc22 := of_decide_eq_true cc22
      refine OWp.evs 1 rfl ?_
      refine OWp.step rfl (Step.call rfl rfl rfl rfl rfl rfl ((lenW hWb2 (fun x hx => List.mem_append_right _ (List.mem_append_left _ hx)) ?_)))
      refine OWp.evs 3 rfl ?_
      refine OWp.nil ?_
      refine Wp.ret ⟨trivial, _, ⟨_, _, rfl, rfl, rfl⟩, ?_⟩
      rfl
    refine OWp.evs 5 rfl ?_
    refine OWp.part 96 rfl (fun cc23 => absurd (of_decide_eq_true cc23) (by omega)) (fun cc23 => ?_)
    have cc23 := of_decide_eq_false cc23
    refine OWp.evs 3 rfl ?_
    refine OWp.nil ?_
    refine Wp.cond rfl (fun c => nomatch c) (fun _ => ?_)
    refine Wp.exit ?_
    refine Wp.seq (Wp.region ?_)
    refine OWp.evs 2 rfl ?_
    refine OWp.step rfl (Step.call rfl rfl rfl rfl rfl rfl ((sameEq (ho.reads.mono fun x hx => List.mem_append_left _ hx) (hoa.reads.mono fun x hx => List.mem_append_right _ (List.mem_append_right _ (List.mem_append_right _ (List.mem_append_left _ hx)))) (by omega) ?_)))
    refine OWp.evs 1 rfl ?_
    refine OWp.part 162 rfl (fun cc24 => ?_) (fun cc24 => (by contradiction))
    refine OWp.evs 1 rfl ?_
    refine OWp.step rfl (Step.call rfl rfl rfl rfl rfl rfl ((lenW hWa2 (fun x hx => List.mem_append_right _ (List.mem_append_right _ (List.mem_append_left _ hx))) ?_)))
    refine OWp.evs 3 rfl ?_
    refine OWp.part 167 rfl (fun cc25 => ?_) (fun cc25 => absurd (of_decide_eq_false cc25) (by exact fun h => h rfl))
    have cc25 := of_decide_eq_true cc25
    refine OWp.evs 1 rfl ?_
    refine OWp.step rfl (Step.call rfl rfl rfl rfl rfl rfl ((lenW hWb2 (fun x hx => List.mem_append_right _ (List.mem_append_left _ hx)) ?_)))
    refine OWp.evs 3 rfl ?_
    refine OWp.nil ?_
    refine Wp.ret ⟨trivial, _, ⟨_, _, rfl, rfl, rfl⟩, ?_⟩
    rfl
  refine OWp.evs 5 rfl ?_
  refine OWp.part 41 rfl (fun cc26 => absurd (of_decide_eq_true cc26) (by omega)) (fun cc26 => ?_)
  have cc26 := of_decide_eq_false cc26
  refine OWp.evs 3 rfl ?_
  refine OWp.nil ?_
  refine Wp.cond rfl (fun c => nomatch c) (fun _ => ?_)
  refine Wp.exit ?_
  refine Wp.seq (Wp.region ?_)
  refine OWp.evs 2 rfl ?_
  refine OWp.step rfl (Step.call rfl rfl rfl rfl rfl rfl ((CallWp.permS (List.perm_append_comm_assoc _ _ _) (advW (to := most) rfl hWa1 (by omega) (Nat.zero_le _) (by omega) ?_))))
  intro Wa2 va oa hWa2 hoa
  obtain ⟨M, hM⟩ : ∃ M, M = stepM zs i := ⟨_, rfl⟩
  have hMl : M.length = i := by rw [hM, stepM_len]
  have hMm : ∀ t ∈ M, ∃ j, ∃ hj : j < zs.length, t.id = (j : Int) ∧ t.due = dueOf 1073741824 zs[j] := fun t ht => stepM_mem hiz (by rw [← hM]; exact ht)
  have hMp : ∀ t ∈ M, 0 < t.due := fun t ht => stepM_pos (by rw [← hM]; exact ht)
  rw [← hM] at hmost hWb1 hWa2 hoa
  have hall := told_len hmost
  have hnone := left_none hmost
  rw [hnone] at hWa2
  obtain ⟨ga, gc, rfl⟩ := hoa.reads.form
  refine OWp.evs 5 rfl ?_
  refine OWp.nil ?_
  refine Wp.seq ?_
  refine Wp.seq (Wp.region ?_)
  refine OWp.evs 3 rfl ?_
  refine OWp.part 84 rfl (fun cc27 => absurd (ndT cc27) (by exact fun h => h rfl)) (fun cc27 => ?_)
  have cc27 := ndF cc27
  refine OWp.evs 7 rfl ?_
  refine OWp.nil ?_
  refine Wp.cond rfl (fun cc28 => absurd (ndT cc28) (by omega)) (fun cc28 => ?_)
  have cc28 := ndF cc28
  obtain ⟨last, hlast⟩ : ∃ last, last = min ss.length 100 := ⟨_, rfl⟩
  refine Wp.skip ?_
  refine Wp.seq (Wp.region ?_)
  refine OWp.evs 1 rfl ?_
  refine OWp.nil ?_
  refine Wp.seq ?_
  refine Wp.seq (Wp.region ?_)
  refine OWp.evs 1 rfl ?_
  refine OWp.nil ?_
  refine Wp.block ?_
  refine Wp.loopS (α := Nat × Nat × Value × Ents × Ents) (fun z => last + 1 - z.1) (fun z => [(0, .slice a1 zs.length cap1), (1, .slice a2 ss.length cap2), (5, pt pa), (6, pt pb), (7, .int .i64 (most : Int)), (14, .slice ga (told M most).length gc), (16, z.2.2.1), (17, .int .i64 (z.1 : Int))]) (fun z => z.2.2.2.1 ++ (z.2.2.2.2 ++ (Wa2 ++ (oa ++ S)))) (fun z => z.1 ≤ last + 1 ∧ z.2.1 ≤ most ∧ (z.1 = last + 1 → z.2.1 = most) ∧ Own B 3 1 z.2.2.1 (told M z.2.1).length (zi (told M z.2.1)) z.2.2.2.1 ∧ Wh B pb (left M z.2.1) z.2.1 i z.2.2.2.2) (0, 0, .slice none 0 0, [], Wb1) ?_ (((List.perm_append_comm_assoc oa Wb1 S).append_left Wa2).trans (List.perm_append_comm_assoc Wa2 Wb1 (oa ++ S))) ⟨Nat.zero_le _, Nat.zero_le _, (fun h => by simp only at h; omega), ?_, ?_⟩ ?_
  · exact .cons rfl (.cons rfl (.cons rfl (.cons rfl (.cons rfl (.cons rfl (.cons rfl (.cons rfl (.nil _))))))))
  · simp only; rw [told_none hMp]; exact Own.nil _ _ _
  · simp only; rw [left_all hMp]; exact hWb1
  rintro ⟨k, now, vo, oe, Wb2⟩ ⟨hk, hnow, hend, ho, hWb2⟩
  simp only at hk hnow hend ho hWb2 ⊢
  refine Wp.seq ?_
  refine Wp.seq (Wp.region ?_)
  by_cases hgo : k ≤ last
  · skip
    refine OWp.evs 5 rfl ?_
    refine OWp.part 96 rfl (fun cc29 => ?_) (fun cc29 => absurd (of_decide_eq_false cc29) (by omega))
    have cc29 := of_decide_eq_true cc29
    refine OWp.evs 3 rfl ?_
    refine OWp.nil ?_
    refine Wp.cond rfl (fun cc30 => ?_) (fun cc30 => absurd (of_decide_eq_false cc30) (by omega))
    have cc30 := of_decide_eq_true cc30
    refine Wp.skip ?_
    refine Wp.seq ?_
    refine Wp.block ?_
    refine Wp.seq (Wp.region ?_)
    refine OWp.evs 2 rfl ?_
    refine OWp.nil ?_
    refine Wp.seqS (α := Nat) (fun z => [(0, .slice a1 zs.length cap1), (1, .slice a2 ss.length cap2), (5, pt pa), (6, pt pb), (7, .int .i64 (most : Int)), (14, .slice ga (told M most).length gc), (16, vo), (17, .int .i64 (k : Int)), (18, .int .i64 (z : Int))]) (fun _ => oe ++ (Wb2 ++ (Wa2 ++ (oa ++ S)))) (fun z => now ≤ z ∧ z ≤ most ∧ (k = last → z = most)) ?_ ?_
    · skip
      refine Wp.seq (Wp.region ?_)
      by_cases hin : k < ss.length ∧ k < 100
      · skip
        refine OWp.evs 5 rfl ?_
        refine OWp.part 107 rfl (fun cc31 => ?_) (fun cc31 => absurd (of_decide_eq_false cc31) (by omega))
        have cc31 := of_decide_eq_true cc31
        refine OWp.evs 3 rfl ?_
        refine OWp.nil ?_
        refine Wp.cond rfl (fun cc32 => ?_) (fun cc32 => absurd (of_decide_eq_false cc32) (by omega))
        have cc32 := of_decide_eq_true cc32
        obtain ⟨b1, o1, c1, l1, t1, f1, hv1, hm1, hat⟩ := zi_at hs (by omega)
        cases hv1
        have hsd := tmod_eq (m := 268435456) (x := ss[k]) (by decide) (by decide)
        have hsd2 : (IntKind.u64.wrap ss[k]).toNat % 268435456 < 268435456 := Nat.mod_lt _ (by decide)
        obtain ⟨sd, hsde⟩ : ∃ sd, sd = (IntKind.u64.wrap ss[k]).toNat % 268435456 := ⟨_, rfl⟩
        rw [← hsde] at hsd hsd2
        refine Wp.regionDraw [0, 1, 3, 4, 5, 6, 7, 8, 9, 2, 10, 11, 12] [2] rfl (by decide +kernel) ?_
        refine DWp.evs 4 rfl ?_
        refine DWp.g rfl rfl rfl rfl (Gives.indexAddrSlice (k) rfl rfl rfl rfl rfl rfl (by omega)) ?_
        refine DWp.load (List.mem_append_right _ (List.mem_append_right _ (List.mem_append_right _ (List.mem_append_right _ hm1)))) rfl rfl rfl rfl rfl rfl (hat k (by omega)) ?_
        refine DWp.evs 3 rfl ?_
        refine DWp.stepGrow rfl rfl rfl (Step.call rfl rfl rfl rfl rfl rfl ((nowW hWb2 (fun x hx => List.mem_append_right _ (List.mem_append_left _ hx)) ?_)))
        refine ⟨fun _ hy => hy, ?_⟩
        refine DWp.evs 3 rfl ?_
        refine DWp.nil ?_
        refine ⟨min most (now + sd), ⟨by omega, by omega, by omega⟩, .cons rfl (.cons rfl (.cons rfl (.cons rfl (.cons rfl (.cons rfl (.cons rfl (.cons rfl (.cons' rfl (int_eq ?_) (.nil _))))))))), .refl _⟩
        rw [show IntKind.i64.wrap ((IntKind.u64.wrap ss[k]).tmod (Int.ofNat (268435455 + 1))) = (sd : Int) from hsd, i64_id (by omega) (by omega)]
        split <;> omega
      by_cases hin2 : k < ss.length
      · skip
        refine OWp.evs 5 rfl ?_
        refine OWp.part 107 rfl (fun cc33 => ?_) (fun cc33 => absurd (of_decide_eq_false cc33) (by omega))
        have cc33 := of_decide_eq_true cc33
        refine OWp.evs 3 rfl ?_
        refine OWp.nil ?_
        refine Wp.cond rfl (fun cc34 => absurd (of_decide_eq_true cc34) (by omega)) (fun cc34 => ?_)
        have cc34 := of_decide_eq_false cc34
        refine Wp.skip ?_
        exact ⟨most, ⟨hnow, Nat.le_refl _, fun _ => rfl⟩, .cons rfl (.cons rfl (.cons rfl (.cons rfl (.cons rfl (.cons rfl (.cons rfl (.cons rfl (.cons rfl (.nil _))))))))), .refl _⟩
      refine OWp.evs 5 rfl ?_
      refine OWp.part 107 rfl (fun cc35 => absurd (of_decide_eq_true cc35) (by omega)) (fun cc35 => ?_)
      have cc35 := of_decide_eq_false cc35
      refine OWp.evs 3 rfl ?_
      refine OWp.nil ?_
      refine Wp.cond rfl (fun c => nomatch c) (fun _ => ?_)
      refine Wp.skip ?_
      exact ⟨most, ⟨hnow, Nat.le_refl _, fun _ => rfl⟩, .cons rfl (.cons rfl (.cons rfl (.cons rfl (.cons rfl (.cons rfl (.cons rfl (.cons rfl (.cons rfl (.nil _))))))))), .refl _⟩
    rintro to ⟨hto1, hto2, hto3⟩
    refine Wp.seq (Wp.region ?_)
    refine OWp.evs 1 rfl ?_
    refine OWp.step rfl (Step.call rfl rfl rfl rfl rfl rfl ((nowW hWb2 (fun x hx => List.mem_append_right _ (List.mem_append_left _ hx)) ?_)))
    refine OWp.evs 1 rfl ?_
    refine OWp.nil ?_
    refine Wp.seq (Wp.region ?_)
    refine OWp.evs 2 rfl ?_
    refine OWp.step rfl (Step.call rfl rfl rfl rfl rfl rfl ((CallWp.permS (List.perm_append_comm_assoc _ _ _) (advW (to := to) rfl hWb2 (by omega) hto1 (by omega) ?_))))
    intro Wb3 vb ob hWb3 hob
    obtain ⟨xa, xc, rfl⟩ := hob.reads.form
    have hleft2 : left (left M now) to = left M to := left_on hto1
    have hon := told_on (M := M) hto1
    have htl := told_left_len M to
    obtain ⟨l, hl⟩ : ∃ l, l = told (left M now) to := ⟨_, rfl⟩
    have hlm : ∀ x ∈ l, ∃ j, ∃ hj : j < zs.length, x = (j : Int) ∧ dueOf 1073741824 zs[j] ≤ to ∧ now < dueOf 1073741824 zs[j] := by
      intro x hx
      rw [hl] at hx
      obtain ⟨t, ht, h5, h6⟩ := mem_told hx
      obtain ⟨j, hj, h7, h8⟩ := hMm t (List.mem_filter.1 ht).1
      have h9 := left_late M now t ht
      exact ⟨j, hj, h6.symm.trans h7, by omega, by omega⟩
    rw [← hl] at hob hon
    rw [hleft2] at hWb3
    rw [← hl]
    have hll : (told M now).length + l.length ≤ 100 := by
      have := congrArg List.length hon
      rw [List.length_append] at this
      omega
    refine OWp.evs 5 rfl ?_
    refine OWp.nil ?_
    refine Wp.seq ?_
    refine Wp.seq (Wp.region ?_)
    refine OWp.evs 2 rfl ?_
    refine OWp.nil ?_
    refine Wp.cond rfl (fun cc36 => absurd (ndT cc36) (by exact fun h => h rfl)) (fun cc36 => ?_)
    have cc36 := ndF cc36
    refine Wp.skip ?_
    refine Wp.seq ?_
    refine Wp.seq (Wp.region ?_)
    refine OWp.evs 3 rfl ?_
    refine OWp.nil ?_
    refine Wp.block ?_
    refine Wp.loopS (α := Nat) (fun j => l.length - j) (fun j => [(0, .slice a1 zs.length cap1), (1, .slice a2 ss.length cap2), (5, pt pa), (6, pt pb), (7, .int .i64 (most : Int)), (14, .slice ga (told M most).length gc), (16, vo), (17, .int .i64 (k : Int)), (18, .int .i64 (to : Int)), (19, .int .i64 (now : Int)), (20, .slice xa l.length xc), (133, .slice xa l.length xc), (134, .int .i64 (l.length : Int)), (135, .int .i64 (j : Int))]) (fun _ => Wb3 ++ (ob ++ (oe ++ (Wa2 ++ (oa ++ S))))) (fun j => j ≤ l.length) 0 ?_ (.refl _) (Nat.zero_le _) ?_
    · exact .cons rfl (.cons rfl (.cons rfl (.cons rfl (.cons rfl (.cons rfl (.cons rfl (.cons rfl (.cons rfl (.cons rfl (.cons rfl (.cons rfl (.cons rfl (.cons rfl (.nil _))))))))))))))
    rintro j hj
    refine Wp.seq (Wp.region ?_)
    refine OWp.evs 1 rfl ?_
    refine OWp.nil ?_
    refine Wp.seq ?_
    refine Wp.cond rfl (fun h7 => ?_) (fun h7 => ?_)
    · have h7 := of_decide_eq_true h7
      have hj2 : j < l.length := by omega
      obtain ⟨b2, o2, c2, l2, t2, f2, hv2, hm2', hat2⟩ := zi_at hob.reads (by omega)
      cases hv2
      obtain ⟨jj, hjj, hx, hd1, hd2⟩ := hlm l[j] (List.getElem_mem hj2)
      obtain ⟨b1, o1, c1, l1, t1, f1, hv1, hm1, hat⟩ := zi_at hz (by omega)
      cases hv1
      have hde : IntKind.i64.wrap (1 + IntKind.i64.wrap ((IntKind.u64.wrap zs[jj]).tmod (Int.ofNat (1073741823 + 1)))) = ((dueOf 1073741824 zs[jj] : Nat) : Int) := dueOf_eq rfl (by decide) (by decide)
      refine Wp.skip ?_
      refine Wp.seq ?_
      refine Wp.block ?_
      refine Wp.seq (Wp.region ?_)
      refine OWp.g rfl rfl (Gives.indexAddrSlice (j) rfl rfl rfl rfl rfl rfl (by omega)) ?_
      refine OWp.load (List.mem_append_right _ (List.mem_append_left _ hm2')) rfl rfl rfl rfl (hat2 j hj2) ?_
      refine OWp.evs 1 rfl ?_
      refine OWp.nil ?_
      refine Wp.seq (Wp.region ?_)
      refine OWp.evs 2 rfl ?_
      refine OWp.g rfl rfl (Gives.indexAddrSlice (jj) rfl rfl rfl rfl rfl hx (by omega)) ?_
      refine OWp.load (List.mem_append_right _ (List.mem_append_right _ (List.mem_append_right _ (List.mem_append_right _ (List.mem_append_right _ hm1))))) rfl rfl rfl rfl (hat jj hjj) ?_
      refine OWp.evs 5 rfl ?_
      refine OWp.nil ?_
      refine Wp.seq (Wp.region ?_)
      refine OWp.evs 4 rfl ?_
      refine OWp.part 150 rfl (fun cc37 => absurd (of_decide_eq_true cc37) (by rw [hde]; omega)) (fun cc37 => ?_)
      have cc37 := of_decide_eq_false cc37
      refine OWp.evs 4 rfl ?_
      refine OWp.nil ?_
      refine Wp.cond rfl (fun cc38 => absurd (of_decide_eq_true cc38) (by rw [hde]; omega)) (fun cc38 => ?_)
      have cc38 := of_decide_eq_false cc38
      refine Wp.skip ?_
      refine Wp.region ?_
      refine OWp.evs 2 rfl ?_
      refine OWp.nil ?_
      exact ⟨j + 1, by omega, by omega, .cons rfl (.cons rfl (.cons rfl (.cons rfl (.cons rfl (.cons rfl (.cons rfl (.cons rfl (.cons rfl (.cons rfl (.cons rfl (.cons rfl (.cons rfl (.cons' rfl (int_eq (i64_inc (by omega))) (.nil _)))))))))))))), .refl _⟩
    have h7 := of_decide_eq_false h7
    refine Wp.exit ?_
    refine Wp.permS (((List.perm_append_comm_assoc ob oe _).append_left Wb3).trans (List.perm_append_comm_assoc Wb3 oe _)) ?_
    refine Wp.region ?_
    refine OWp.evs 2 rfl ?_
    refine OWp.step rfl (Step.appendAt [] rfl rfl rfl rfl rfl rfl (by decide) rfl rfl ho (hob.reads.mono fun x hx => List.mem_append_right _ (List.mem_append_right _ (List.mem_append_right _ (List.mem_append_left _ hx)))) (zi_one _) (by show (_ + _) * 8 ≤ _; omega) (by unfold maxLen; omega) ?_)
    intro vo2 oe2 ho2 _
    refine OWp.evs 1 rfl ?_
    refine OWp.nil ?_
    refine Wp.drop (S' := oe2 ++ (Wb3 ++ (Wa2 ++ (oa ++ S)))) ((List.Sublist.refl _).append ((List.Sublist.refl _).append (List.sublist_append_right _ _))) ?_
    refine Wp.region ?_
    refine OWp.evs 3 rfl ?_
    refine OWp.nil ?_
    refine ⟨(k + 1, to, vo2, oe2, Wb3), by simp only; omega, ⟨by simp only; omega, hto2, (fun h => by simp only at h ⊢; exact hto3 (by omega)), ?_, hWb3⟩, .cons rfl (.cons rfl (.cons rfl (.cons rfl (.cons rfl (.cons rfl (.cons rfl (.cons' rfl (int_eq (i64_inc (by omega))) (.nil _)))))))), .refl _⟩
    simp only
    rw [hon, List.length_append, zi_append]
    exact ho2
  obtain rfl : now = most := hend (by omega)
  rw [hnone] at hWb2
  by_cases hgo2 : k ≤ ss.length
  · skip
    refine OWp.evs 5 rfl ?_
    refine OWp.part 96 rfl (fun cc39 => ?_) (fun cc39 => absurd (of_decide_eq_false cc39) (by omega))
    have cc39 := of_decide_eq_true cc39
    refine OWp.evs 3 rfl ?_
    refine OWp.nil ?_
    refine Wp.cond rfl (fun cc40 => absurd (of_decide_eq_true cc40) (by omega)) (fun cc40 => ?_)
    have cc40 := of_decide_eq_false cc40
    refine Wp.exit ?_
    refine Wp.seq (Wp.region ?_)
    refine OWp.evs 2 rfl ?_
    refine OWp.step rfl (Step.call rfl rfl rfl rfl rfl rfl ((sameEq (ho.reads.mono fun x hx => List.mem_append_left _ hx) (hoa.reads.mono fun x hx => List.mem_append_right _ (List.mem_append_right _ (List.mem_append_right _ (List.mem_append_left _ hx)))) (by omega) ?_)))
    refine OWp.evs 1 rfl ?_
    refine OWp.part 162 rfl (fun cc41 => ?_) (fun cc41 => (by contradiction))
    refine OWp.evs 1 rfl ?_
    refine OWp.step rfl (Step.call rfl rfl rfl rfl rfl rfl ((lenW hWa2 (fun x hx => List.mem_append_right _ (List.mem_append_right _ (List.mem_append_left _ hx))) ?_)))
    refine OWp.evs 3 rfl ?_
    refine OWp.part 167 rfl (fun cc42 => ?_) (fun cc42 => absurd (of_decide_eq_false cc42) (by exact fun h => h rfl))
    have cc42 := of_decide_eq_true cc42
    refine OWp.evs 1 rfl ?_
    refine OWp.step rfl (Step.call rfl rfl rfl rfl rfl rfl ((lenW hWb2 (fun x hx => List.mem_append_right _ (List.mem_append_left _ hx)) ?_)))
    refine OWp.evs 3 rfl ?_
    refine OWp.nil ?_
    refine Wp.ret ⟨trivial, _, ⟨_, _, rfl, rfl, rfl⟩, ?_⟩
    rfl
  refine OWp.evs 5 rfl ?_
  refine OWp.part 96 rfl (fun cc43 => absurd (of_decide_eq_true cc43) (by omega)) (fun cc43 => ?_)
  have cc43 := of_decide_eq_false cc43
  refine OWp.evs 3 rfl ?_
  refine OWp.nil ?_
  refine Wp.cond rfl (fun c => nomatch c) (fun _ => ?_)
  refine Wp.exit ?_
  refine Wp.seq (Wp.region ?_)
  refine OWp.evs 2 rfl ?_
  refine OWp.step rfl (Step.call rfl rfl rfl rfl rfl rfl ((sameEq (ho.reads.mono fun x hx => List.mem_append_left _ hx) (hoa.reads.mono fun x hx => List.mem_append_right _ (List.mem_append_right _ (List.mem_append_right _ (List.mem_append_left _ hx)))) (by omega) ?_)))
  refine OWp.evs 1 rfl ?_
  refine OWp.part 162 rfl (fun cc44 => ?_) (fun cc44 => (by contradiction))
  refine OWp.evs 1 rfl ?_
  refine OWp.step rfl (Step.call rfl rfl rfl rfl rfl rfl ((lenW hWa2 (fun x hx => List.mem_append_right _ (List.mem_append_right _ (List.mem_append_left _ hx))) ?_)))
  refine OWp.evs 3 rfl ?_
  refine OWp.part 167 rfl (fun cc45 => ?_) (fun cc45 => absurd (of_decide_eq_false cc45) (by exact fun h => h rfl))
  have cc45 := of_decide_eq_true cc45
  refine OWp.evs 1 rfl ?_
  refine OWp.step rfl (Step.call rfl rfl rfl rfl rfl rfl ((lenW hWb2 (fun x hx => List.mem_append_right _ (List.mem_append_left _ hx)) ?_)))
  refine OWp.evs 3 rfl ?_
  refine OWp.nil ?_
  refine Wp.ret ⟨trivial, _, ⟨_, _, rfl, rfl, rfl⟩, ?_⟩
  rfl
end
end Go.Proofs.E
