/- What functions of the given program do, one after the other, told by that layer. -/
import Derived.Test.YtnjgekonoladfaaWWheelN
import Derived.Test.YtnjgekonoladfaaWLWheelCancels
namespace Go.Proofs.E
open Go.Lg Go.Whl
set_option maxRecDepth 100000

theorem first_srt {M : List T} {t u : T} {l : List T} (ht : t ∈ M) (hmin : ∀ u ∈ M, t.due ≤ u.due) (h : srt M = u :: l) : u.due = t.due := by
  have hu : u ∈ M := mem_srt.1 (by rw [h]; exact List.mem_cons_self)
  have h1 := hmin u hu
  have h2 := srt_up M
  rw [h] at h2
  have h3 : t ∈ u :: l := by rw [← h]; exact mem_srt.2 ht
  rcases List.mem_cons.1 h3 with rfl | h3
  · rfl
  · have := (List.pairwise_cons.1 h2).1 t h3
    omega

section
variable {B : Nat} {S : Ents}
set_option maxHeartbeats 8000000 in
theorem wheelPlaysW {a : Option Addr} {len cap : Nat} (h : Rd Try.prog S 41 [.slice a len cap]) : CallWp Try.prog B 7 #[.slice a len cap] (fun v _ => v = .bool true) S := by
  obtain ⟨zs, hz, hlen⟩ := rdActs h
  obtain rfl := hz.len
  refine CallWp.enter (args := [_]) Try.func7 rfl Try.ntmps7 rfl ?_
  refine Wp.seq (Wp.region ?_)
  refine OWp.evs 1 rfl ?_
  refine OWp.nil ?_
  refine Wp.seq (Wp.region ?_)
  refine OWp.step rfl (Step.call rfl rfl rfl rfl rfl rfl ((newW ?_)))
  intro pw W hW
  refine OWp.evs 1 rfl ?_
  refine OWp.nil ?_
  refine Wp.seq (Wp.region ?_)
  refine OWp.g rfl rfl (Gives.build rfl rfl) ?_
  refine OWp.step rfl (Step.box rfl rfl rfl ?_); intro pr hBpr hLpr
  refine OWp.evs 1 rfl ?_
  refine OWp.nil ?_
  refine Wp.seq ?_
  refine Wp.seq (Wp.region ?_)
  refine OWp.evs 5 rfl ?_
  refine OWp.step rfl (Step.call rfl rfl rfl rfl rfl rfl ((worksC ?_)))
  refine OWp.evs 2 rfl ?_
  refine OWp.nil ?_
  refine Wp.cond rfl (fun c => nomatch c) (fun _ => ?_)
  refine Wp.skip ?_
  refine Wp.seq ?_
  refine Wp.seq (Wp.region ?_)
  refine OWp.evs 1 rfl ?_
  refine OWp.nil ?_
  refine Wp.block ?_
  refine Wp.loopS (α := Nat × List T × Nat × Nat × Ents × Ents) (fun z => 200 - z.1) (fun z => [(0, .slice a zs.length cap), (3, pt pw), (4, pt pr), (5, .int .i64 (z.1 : Int))]) (fun z => z.2.2.2.2.1 ++ (z.2.2.2.2.2 ++ S)) (fun z => z.1 ≤ 200 ∧ z.2.1.length ≤ z.1 ∧ z.2.2.2.1 ≤ z.1 ∧ Wh B pw z.2.1 z.2.2.1 z.2.2.2.1 z.2.2.2.2.1 ∧ Rf B pr (srt z.2.1) z.2.2.1 z.2.2.2.1 z.2.2.2.2.2) (0, [], 0, 0, W, [rE pr (.slice none 0 0) 0 0]) ?_ (List.perm_middle.symm) ⟨Nat.zero_le _, Nat.le_refl _, Nat.le_refl _, hW, hBpr, List.Pairwise.nil, _, _, Own.nil _ _ _, rfl⟩ ?_
  · exact .cons rfl (.cons rfl (.cons rfl (.cons rfl (.nil _))))
  rintro ⟨i, M, now, put, W1, R1⟩ ⟨hi, hMl, hput, hW1, hR1⟩
  simp only at hi hMl hput hW1 hR1 ⊢
  refine Wp.seq ?_
  refine Wp.seq (Wp.region ?_)
  by_cases hgo : i < zs.length ∧ i < 200
  · skip
    obtain ⟨hi1, hi2⟩ := hgo
    refine OWp.evs 5 rfl ?_
    refine OWp.part 35 rfl (fun cc1 => ?_) (fun cc1 => absurd (of_decide_eq_false cc1) (by omega))
    have cc1 := of_decide_eq_true cc1
    refine OWp.evs 3 rfl ?_
    refine OWp.nil ?_
    refine Wp.cond rfl (fun cc2 => ?_) (fun cc2 => absurd (of_decide_eq_false cc2) (by omega))
    have cc2 := of_decide_eq_true cc2
    obtain ⟨b1, o1, c1, l1, t1, f1, hv1, hm1, hat⟩ := hz.elem (sz := 4) (fun x _ => rfl) (by omega)
    cases hv1
    have hld := partAt_agg (P := Try.prog) (t := 47) (hat i hi1) rfl rfl rfl
    generalize zs[i] = x at hld
    obtain ⟨ra, rc, hrm⟩ := hR1.mem
    have htime := hW1.time
    have hsl := srt_len M
    refine Wp.skip ?_
    refine Wp.seq ?_
    refine Wp.block ?_
    refine Wp.seq (Wp.region ?_)
    refine OWp.evs 2 rfl ?_
    refine OWp.g rfl rfl (Gives.indexAddrSlice (i) rfl rfl rfl rfl rfl rfl (by omega)) ?_
    refine OWp.load (List.mem_append_right _ (List.mem_append_right _ hm1)) rfl rfl rfl rfl hld ?_
    refine OWp.step rfl (Step.alloc rfl rfl rfl ?_); intro La hBLa hLLa
    refine OWp.step rfl (Step.storeAs 0 (af x) rfl rfl rfl rfl rfl hBLa rfl (Unfz.zero _) rfl (Nat.le_of_ble_eq_true rfl) rfl rfl ?_)
    refine OWp.nil ?_
    refine Wp.seq (Wp.regionDraw [0, 1, 2, 3, 4, 5, 6] [5] rfl (by decide +kernel) ?_)
    refine DWp.load (.head _) rfl rfl rfl rfl rfl rfl rfl ?_
    refine DWp.evs 3 rfl ?_
    refine DWp.load (.tail _ (List.mem_append_right _ (List.mem_append_left _ hrm))) rfl rfl rfl rfl rfl rfl rfl ?_
    refine DWp.stepAll rfl rfl rfl rfl (Step.call rfl rfl rfl rfl rfl rfl ((timeC ?_)))
    intro tz
    refine DWp.evs 1 rfl ?_
    refine DWp.nil ?_
    refine Wp.seqS (α := List T × Nat × Nat × Ents × Ents) (fun z => [(0, .slice (some ⟨b1, o1, none⟩) zs.length cap), (3, pt pw), (4, pt pr), (5, .int .i64 (i : Int))]) (fun z => z.2.2.2.1 ++ (z.2.2.2.2 ++ S)) (fun z => z.1.length ≤ i + 1 ∧ z.2.2.1 ≤ i + 1 ∧ Wh B pw z.1 z.2.1 z.2.2.1 z.2.2.2.1 ∧ Rf B pr (srt z.1) z.2.1 z.2.2.1 z.2.2.2.2) ?_ ?_
    · skip
      refine Wp.seq (Wp.region ?_)
      refine OWp.evs 1 rfl ?_
      refine OWp.load (.head _) rfl rfl rfl rfl rfl ?_
      refine OWp.step rfl (Step.call rfl rfl rfl rfl rfl rfl ((amongC (n := 3) rfl (by decide) (by decide) ?_)))
      intro k hk
      refine OWp.nil ?_
      refine Wp.block ?_
      refine Wp.seq (Wp.region ?_)
      refine OWp.evs 2 rfl ?_
      refine OWp.nil ?_
      refine Wp.cond rfl (fun hk0 => ?_) (fun hk0 => ?_)
      · have hk0 := of_decide_eq_true hk0
        refine Wp.seq (Wp.region ?_)
        by_cases hz1 : tz ≤ (now : Int)
        · skip
          refine OWp.evs 3 rfl ?_
          refine OWp.load (.head _) rfl rfl rfl rfl rfl ?_
          refine OWp.step rfl (Step.call rfl rfl rfl rfl rfl rfl ((putLateW hW1 (fun x hx => .tail _ (List.mem_append_left _ hx)) hz1 ?_)))
          refine OWp.evs 5 rfl ?_
          refine OWp.nil ?_
          refine Wp.seq (Wp.region ?_)
          refine OWp.evs 3 rfl ?_
          refine OWp.load (.head _) rfl rfl rfl rfl rfl ?_
          refine OWp.step rfl (Step.call rfl rfl rfl rfl rfl rfl ((rPutLateC hR1 (fun x hx => .tail _ (List.mem_append_right _ (List.mem_append_left _ hx))) hz1 ?_)))
          refine OWp.evs 5 rfl ?_
          refine OWp.nil ?_
          refine Wp.drop (List.sublist_cons_self _ _) ?_
          refine Wp.seq (Wp.region ?_)
          refine OWp.evs 4 rfl ?_
          refine OWp.part 98 rfl (fun cc3 => absurd (ndT cc3) (by exact fun h => h rfl)) (fun cc3 => ?_)
          have cc3 := ndF cc3
          refine OWp.evs 4 rfl ?_
          refine OWp.nil ?_
          refine Wp.cond rfl (fun cc4 => absurd (ndT cc4) (by exact fun h => h rfl)) (fun cc4 => ?_)
          have cc4 := ndF cc4
          refine Wp.skip ?_
          exact ⟨(M, now, put, W1, R1), ⟨by simp only; omega, by simp only; omega, hW1, hR1⟩, .cons rfl (.cons rfl (.cons rfl (.cons rfl (.nil _)))), .refl _⟩
        by_cases hz2 : 1099511627776 < tz
        · skip
          refine OWp.evs 3 rfl ?_
          refine OWp.load (.head _) rfl rfl rfl rfl rfl ?_
          refine OWp.step rfl (Step.call rfl rfl rfl rfl rfl rfl ((putFarW hW1 (fun x hx => .tail _ (List.mem_append_left _ hx)) (by omega) hz2 ?_)))
          refine OWp.evs 5 rfl ?_
          refine OWp.nil ?_
          refine Wp.seq (Wp.region ?_)
          refine OWp.evs 3 rfl ?_
          refine OWp.load (.head _) rfl rfl rfl rfl rfl ?_
          refine OWp.step rfl (Step.call rfl rfl rfl rfl rfl rfl ((rPutFarC hR1 (fun x hx => .tail _ (List.mem_append_right _ (List.mem_append_left _ hx))) (by omega) hz2 ?_)))
          refine OWp.evs 5 rfl ?_
          refine OWp.nil ?_
          refine Wp.drop (List.sublist_cons_self _ _) ?_
          refine Wp.seq (Wp.region ?_)
          refine OWp.evs 4 rfl ?_
          refine OWp.part 98 rfl (fun cc5 => absurd (ndT cc5) (by exact fun h => h rfl)) (fun cc5 => ?_)
          have cc5 := ndF cc5
          refine OWp.evs 4 rfl ?_
          refine OWp.nil ?_
          refine Wp.cond rfl (fun cc6 => absurd (ndT cc6) (by exact fun h => h rfl)) (fun cc6 => ?_)
          have cc6 := ndF cc6
          refine Wp.skip ?_
          exact ⟨(M, now, put, W1, R1), ⟨by simp only; omega, by simp only; omega, hW1, hR1⟩, .cons rfl (.cons rfl (.cons rfl (.cons rfl (.nil _)))), .refl _⟩
        obtain ⟨tn, rfl⟩ := Int.eq_ofNat_of_zero_le (show 0 ≤ tz by omega)
        refine OWp.evs 3 rfl ?_
        refine OWp.load (.head _) rfl rfl rfl rfl rfl ?_
        refine OWp.step rfl (Step.call rfl rfl rfl rfl rfl rfl ((CallWp.permS List.perm_middle.symm (putW (a := tn) rfl hW1 (by omega) (by omega) (by omega) (by omega) ?_))))
        intro W2 hW2
        refine OWp.evs 5 rfl ?_
        refine OWp.nil ?_
        refine Wp.seq (Wp.region ?_)
        refine OWp.evs 3 rfl ?_
        refine OWp.load (List.mem_append_right _ (.head _)) rfl rfl rfl rfl rfl ?_
        refine OWp.step rfl (Step.call rfl rfl rfl rfl rfl rfl ((CallWp.permS ((List.perm_middle.symm.append_left W2).trans (List.perm_append_comm_assoc _ _ _)) (rPutC (a := tn) rfl hR1 (by omega) (by omega) (by omega) (by omega) ?_))))
        rw [← srt_snoc]
        intro R2 hR2
        refine OWp.evs 5 rfl ?_
        refine OWp.nil ?_
        refine Wp.permS (List.perm_append_comm_assoc _ _ _) ?_
        refine Wp.drop (S' := W2 ++ (R2 ++ S)) ((List.Sublist.refl _).append ((List.Sublist.refl _).append (List.sublist_cons_self _ _))) ?_
        refine Wp.seq (Wp.region ?_)
        refine OWp.evs 4 rfl ?_
        refine OWp.part 98 rfl (fun cc7 => absurd (ndT cc7) (by exact fun h => h rfl)) (fun cc7 => ?_)
        have cc7 := ndF cc7
        refine OWp.evs 4 rfl ?_
        refine OWp.nil ?_
        refine Wp.cond rfl (fun cc8 => absurd (ndT cc8) (by exact fun h => h rfl)) (fun cc8 => ?_)
        have cc8 := ndF cc8
        refine Wp.skip ?_
        exact ⟨(M ++ [⟨tn, x.2.2.1, put + 1⟩], now, put + 1, W2, R2), ⟨by simp only; rw [len_snoc]; omega, by simp only; omega, hW2, hR2⟩, .cons rfl (.cons rfl (.cons rfl (.cons rfl (.nil _)))), .refl _⟩
      have hk0 := of_decide_eq_false hk0
      refine Wp.seq (Wp.region ?_)
      refine OWp.evs 2 rfl ?_
      refine OWp.nil ?_
      refine Wp.cond rfl (fun hk1 => ?_) (fun hk1 => ?_)
      · have hk1 := of_decide_eq_true hk1
        refine Wp.seq (Wp.regionDraw [0, 1, 2, 4, 5, 6, 3, 7, 8] [3, 7] rfl (by decide +kernel) ?_)
        by_cases hex : ∃ t ∈ M, (t.no : Int) = x.2.2.1
        · skip
          obtain ⟨t0, ht0, hno⟩ := hex
          refine DWp.evs 2 rfl ?_
          refine DWp.load (.head _) rfl rfl rfl rfl rfl rfl rfl ?_
          refine DWp.evs 2 rfl ?_
          refine DWp.load (.head _) rfl rfl rfl rfl rfl rfl rfl ?_
          refine DWp.step rfl rfl rfl (Step.call rfl rfl rfl rfl rfl rfl ((CallWp.permS List.perm_middle.symm (cancelW hW1 (fun _ _ _ W2 hW2 => ?_) (fun h => absurd hno (h t0 ht0))))))
          refine ⟨by (repeat (first | exact pr_nil | refine pr_kept ?_ | refine pr_free ?_ | refine pr_cons (by repeat (first | exact List.Mem.head _ | assumption | apply List.mem_cons_of_mem | apply List.mem_append_right)) ?_)), ?_⟩
          refine DWp.stepAll rfl rfl rfl rfl (Step.call rfl rfl rfl rfl rfl rfl ((CallWp.permS ((List.perm_middle.symm.append_left W2).trans (List.perm_append_comm_assoc _ _ _)) (rCancelC hR1 (nos_ne hW1.nos) (by omega) (fun _ _ _ R2 hR2 => ?_) (fun h => absurd hno (h t0 (mem_srt.2 ht0)))))))
          rw [← srt_filter] at hR2
          have hfl : (M.filter fun t => decide ((t.no : Int) ≠ x.2.2.1)).length ≤ M.length := List.length_filter_le _ _
          refine DWp.perm0 (List.perm_append_comm_assoc _ _ _) ?_
          refine DWp.drop0 (S' := W2 ++ (R2 ++ S)) ((List.Sublist.refl _).append ((List.Sublist.refl _).append (List.sublist_cons_self _ _))) ?_
          refine DWp.evs 1 rfl ?_
          refine DWp.nil ?_
          refine Wp.cond rfl (fun cc9 => absurd (ndT cc9) (by exact fun h => h rfl)) (fun cc9 => ?_)
          have cc9 := ndF cc9
          refine Wp.skip ?_
          exact ⟨(_, now, put, W2, R2), ⟨by simp only; omega, by simp only; omega, hW2, hR2⟩, .cons rfl (.cons rfl (.cons rfl (.cons rfl (.nil _)))), .refl _⟩
        have hno : ∀ t ∈ M, (t.no : Int) ≠ x.2.2.1 := fun t ht e => hex ⟨t, ht, e⟩
        refine DWp.evs 2 rfl ?_
        refine DWp.load (.head _) rfl rfl rfl rfl rfl rfl rfl ?_
        refine DWp.evs 2 rfl ?_
        refine DWp.load (.head _) rfl rfl rfl rfl rfl rfl rfl ?_
        refine DWp.step rfl rfl rfl (Step.call rfl rfl rfl rfl rfl rfl ((CallWp.permS List.perm_middle.symm (cancelW hW1 (fun t ht h => absurd h (hno t ht)) (fun _ => ?_)))))
        refine ⟨by (repeat (first | exact pr_nil | refine pr_kept ?_ | refine pr_free ?_ | refine pr_cons (by repeat (first | exact List.Mem.head _ | assumption | apply List.mem_cons_of_mem | apply List.mem_append_right)) ?_)), ?_⟩
        refine DWp.stepAll rfl rfl rfl rfl (Step.call rfl rfl rfl rfl rfl rfl ((CallWp.permS ((List.perm_middle.symm.append_left W1).trans (List.perm_append_comm_assoc _ _ _)) (rCancelC hR1 (nos_ne hW1.nos) (by omega) (fun t ht h => absurd h (hno t (mem_srt.1 ht))) (fun _ => ?_)))))
        refine DWp.perm0 (List.perm_append_comm_assoc _ _ _) ?_
        refine DWp.drop0 (S' := W1 ++ (R1 ++ S)) ((List.Sublist.refl _).append ((List.Sublist.refl _).append (List.sublist_cons_self _ _))) ?_
        refine DWp.evs 1 rfl ?_
        refine DWp.nil ?_
        refine Wp.cond rfl (fun cc10 => absurd (ndT cc10) (by exact fun h => h rfl)) (fun cc10 => ?_)
        have cc10 := ndF cc10
        refine Wp.skip ?_
        exact ⟨(M, now, put, W1, R1), ⟨by simp only; omega, by simp only; omega, hW1, hR1⟩, .cons rfl (.cons rfl (.cons rfl (.cons rfl (.nil _)))), .refl _⟩
      have hk1 := of_decide_eq_false hk1
      refine Wp.seq (Wp.region ?_)
      by_cases hz1 : tz < (now : Int)
      · skip
        refine OWp.evs 2 rfl ?_
        refine OWp.step rfl (Step.call rfl rfl rfl rfl rfl rfl ((advLateW hW1 (fun x hx => .tail _ (List.mem_append_left _ hx)) hz1 ?_)))
        refine OWp.evs 5 rfl ?_
        refine OWp.nil ?_
        refine Wp.seq (Wp.region ?_)
        refine OWp.evs 2 rfl ?_
        refine OWp.step rfl (Step.call rfl rfl rfl rfl rfl rfl ((rAdvLateC hR1 (fun x hx => .tail _ (List.mem_append_right _ (List.mem_append_left _ hx))) hz1 ?_)))
        refine OWp.evs 5 rfl ?_
        refine OWp.nil ?_
        refine Wp.seq ?_
        refine Wp.seq (Wp.region ?_)
        refine OWp.evs 2 rfl ?_
        refine OWp.step rfl (Step.call rfl rfl rfl rfl rfl rfl ((sameEq (l := []) (Reads.nil _ _) (Reads.nil _ _) (by decide) ?_)))
        refine OWp.evs 2 rfl ?_
        refine OWp.part 70 rfl (fun cc11 => (by contradiction)) (fun cc11 => ?_)
        refine OWp.evs 4 rfl ?_
        refine OWp.nil ?_
        refine Wp.cond rfl (fun cc12 => absurd (ndT cc12) (by exact fun h => h rfl)) (fun cc12 => ?_)
        have cc12 := ndF cc12
        refine Wp.skip ?_
        refine Wp.drop (List.sublist_cons_self _ _) ?_
        refine Wp.region ?_
        refine OWp.evs 1 rfl ?_
        refine OWp.step rfl (Step.call rfl rfl rfl rfl rfl rfl ((spoilC (es := []) (Own.nil _ _ _) ?_)))
        refine OWp.nil ?_
        exact ⟨(M, now, put, W1, R1), ⟨by simp only; omega, by simp only; omega, hW1, hR1⟩, .cons rfl (.cons rfl (.cons rfl (.cons rfl (.nil _)))), .refl _⟩
      by_cases hz2 : 1099511627776 < tz
      · skip
        refine OWp.evs 2 rfl ?_
        refine OWp.step rfl (Step.call rfl rfl rfl rfl rfl rfl ((advFarW hW1 (fun x hx => .tail _ (List.mem_append_left _ hx)) (by omega) hz2 ?_)))
        refine OWp.evs 5 rfl ?_
        refine OWp.nil ?_
        refine Wp.seq (Wp.region ?_)
        refine OWp.evs 2 rfl ?_
        refine OWp.step rfl (Step.call rfl rfl rfl rfl rfl rfl ((rAdvFarC hR1 (fun x hx => .tail _ (List.mem_append_right _ (List.mem_append_left _ hx))) (by omega) hz2 ?_)))
        refine OWp.evs 5 rfl ?_
        refine OWp.nil ?_
        refine Wp.seq ?_
        refine Wp.seq (Wp.region ?_)
        refine OWp.evs 2 rfl ?_
        refine OWp.step rfl (Step.call rfl rfl rfl rfl rfl rfl ((sameEq (l := []) (Reads.nil _ _) (Reads.nil _ _) (by decide) ?_)))
        refine OWp.evs 2 rfl ?_
        refine OWp.part 70 rfl (fun cc13 => (by contradiction)) (fun cc13 => ?_)
        refine OWp.evs 4 rfl ?_
        refine OWp.nil ?_
        refine Wp.cond rfl (fun cc14 => absurd (ndT cc14) (by exact fun h => h rfl)) (fun cc14 => ?_)
        have cc14 := ndF cc14
        refine Wp.skip ?_
        refine Wp.drop (List.sublist_cons_self _ _) ?_
        refine Wp.region ?_
        refine OWp.evs 1 rfl ?_
        refine OWp.step rfl (Step.call rfl rfl rfl rfl rfl rfl ((spoilC (es := []) (Own.nil _ _ _) ?_)))
        refine OWp.nil ?_
        exact ⟨(M, now, put, W1, R1), ⟨by simp only; omega, by simp only; omega, hW1, hR1⟩, .cons rfl (.cons rfl (.cons rfl (.cons rfl (.nil _)))), .refl _⟩
      obtain ⟨tn, rfl⟩ := Int.eq_ofNat_of_zero_le (show 0 ≤ tz by omega)
      refine OWp.evs 2 rfl ?_
      refine OWp.step rfl (Step.call rfl rfl rfl rfl rfl rfl ((CallWp.permS List.perm_middle.symm (advW (to := tn) rfl hW1 (by omega) (by omega) (by omega) ?_))))
      intro W2 va oa hW2 hoa
      refine OWp.evs 5 rfl ?_
      refine OWp.nil ?_
      refine Wp.seq (Wp.region ?_)
      refine OWp.evs 2 rfl ?_
      refine OWp.step rfl (Step.call rfl rfl rfl rfl rfl rfl ((CallWp.permS (((List.perm_middle.symm.append_left oa).append_left W2).trans (permb _ _ _ _)) (rAdvC (to := tn) rfl hR1 (by omega) (by omega) (by omega) ?_))))
      rw [← srt_filter]
      intro R2 vb ob hR2 hob
      have htl := told_left_len M tn
      refine OWp.evs 5 rfl ?_
      refine OWp.nil ?_
      refine Wp.seq ?_
      refine Wp.seq (Wp.region ?_)
      refine OWp.evs 2 rfl ?_
      refine OWp.step rfl (Step.call rfl rfl rfl rfl rfl rfl ((sameEq (hoa.reads.mono fun x hx => List.mem_append_right _ (List.mem_append_right _ (List.mem_append_right _ (List.mem_append_left _ hx)))) (hob.reads.mono fun x hx => List.mem_append_right _ (List.mem_append_left _ hx)) (by omega) ?_)))
      refine OWp.evs 2 rfl ?_
      refine OWp.part 70 rfl (fun cc15 => (by contradiction)) (fun cc15 => ?_)
      refine OWp.evs 4 rfl ?_
      refine OWp.nil ?_
      refine Wp.cond rfl (fun cc16 => absurd (ndT cc16) (by exact fun h => h rfl)) (fun cc16 => ?_)
      have cc16 := ndF cc16
      refine Wp.skip ?_
      refine Wp.region ?_
      refine OWp.evs 1 rfl ?_
      refine OWp.step rfl (Step.call rfl rfl rfl rfl rfl rfl ((CallWp.permS ((((List.perm_append_comm_assoc W2 oa _).append_left ob).append_left R2).trans (permb R2 ob oa _)) (spoilC hoa ?_))))
      refine OWp.permS (permb R2 ob W2 _) ?_
      refine OWp.drop (S' := W2 ++ (R2 ++ S)) ((List.Sublist.refl _).append ((List.Sublist.refl _).append ((List.sublist_cons_self _ _).trans (List.sublist_append_right _ _)))) ?_
      refine OWp.nil ?_
      exact ⟨(left M tn, tn, put, W2, R2), ⟨by simp only; omega, by simp only; omega, hW2, hR2⟩, .cons rfl (.cons rfl (.cons rfl (.cons rfl (.nil _)))), .refl _⟩
    rintro ⟨M2, now2, put2, W2, R2⟩ ⟨hMl2, hput2, hW2, hR2⟩
    simp only at hMl2 hput2 hW2 hR2 ⊢
    obtain ⟨sa, sc, hsm⟩ := hR2.mem
    have hsl2 := srt_len M2
    have hsm2 : rE pr (.slice sa (srt M2).length sc) now2 put2 ∈ W2 ++ (R2 ++ S) := List.mem_append_right _ (List.mem_append_left _ hsm)
    refine Wp.seq (Wp.region ?_)
    refine OWp.evs 1 rfl ?_
    refine OWp.step rfl (Step.call rfl rfl rfl rfl rfl rfl ((nextW hW2 (by omega) ?_)))
    intro t b hc
    rcases hc with ⟨rfl, rfl, rfl⟩ | ⟨rfl, ht, hmin⟩
    · skip
      refine OWp.evs 5 rfl ?_
      refine OWp.nil ?_
      refine Wp.seq (Wp.region ?_)
      refine OWp.evs 1 rfl ?_
      refine OWp.step rfl (Step.call rfl rfl rfl rfl rfl rfl ((rNextC hR2 (fun x hx => List.mem_append_right _ (List.mem_append_left _ hx)) (fun _ => ?_) (fun t l h => nomatch h))))
      refine OWp.evs 5 rfl ?_
      refine OWp.nil ?_
      refine Wp.seq (Wp.regionDraw [0, 1, 2, 3, 4, 5, 6, 7, 8, 9, 11, 12, 13, 14, 10, 15, 16, 17, 18, 20, 21, 22, 23, 24, 19, 25, 26] [10, 19] rfl (by decide +kernel) ?_)
      refine DWp.evs 4 rfl ?_
      refine DWp.part 127 rfl (fun cc17 => absurd (ndT cc17) (by exact fun h => h rfl)) (fun cc17 => ?_)
      have cc17 := ndF cc17
      refine DWp.evs 5 rfl ?_
      refine DWp.part 132 rfl (fun cc18 => (by contradiction)) (fun cc18 => ?_)
      refine DWp.evs 4 rfl ?_
      refine DWp.load hsm2 rfl rfl rfl rfl rfl rfl rfl ?_
      refine DWp.stepGrow rfl rfl rfl (Step.call rfl rfl rfl rfl rfl rfl ((nowW hW2 (fun x hx => List.mem_append_left _ hx) ?_)))
      refine ⟨fun _ hy => hy, ?_⟩
      refine DWp.evs 3 rfl ?_
      refine DWp.part 141 rfl (fun cc19 => absurd (ndT cc19) (by exact fun h => h rfl)) (fun cc19 => ?_)
      have cc19 := ndF cc19
      refine DWp.evs 4 rfl ?_
      refine DWp.load hsm2 rfl rfl rfl rfl rfl rfl rfl ?_
      refine DWp.evs 1 rfl ?_
      refine DWp.stepGrow rfl rfl rfl (Step.call rfl rfl rfl rfl rfl rfl ((lenW hW2 (fun x hx => List.mem_append_left _ hx) ?_)))
      refine ⟨fun _ hy => hy, ?_⟩
      refine DWp.evs 2 rfl ?_
      refine DWp.nil ?_
      refine Wp.cond rfl (fun cc20 => absurd (ndT cc20) (by rw [hsl2]; exact fun h => h rfl)) (fun cc20 => ?_)
      have cc20 := ndF cc20
      refine Wp.skip ?_
      refine Wp.region ?_
      refine OWp.evs 3 rfl ?_
      refine OWp.nil ?_
      exact ⟨(i + 1, _, now2, put2, W2, R2), by simp only; omega, ⟨by simp only; omega, hMl2, hput2, hW2, hR2⟩, .cons rfl (.cons rfl (.cons rfl (.cons' rfl (int_eq (i64_inc (by omega))) (.nil _)))), .refl _⟩
    refine OWp.evs 5 rfl ?_
    refine OWp.nil ?_
    refine Wp.seq (Wp.region ?_)
    refine OWp.evs 1 rfl ?_
    refine OWp.step rfl (Step.call rfl rfl rfl rfl rfl rfl ((rNextC hR2 (fun x hx => List.mem_append_right _ (List.mem_append_left _ hx)) (fun h => absurd (srt_nil.1 h) (List.ne_nil_of_mem ht)) (fun u l h => ?_))))
    rw [first_srt ht hmin h]
    refine OWp.evs 5 rfl ?_
    refine OWp.nil ?_
    refine Wp.seq (Wp.regionDraw [0, 1, 2, 3, 4, 5, 6, 7, 8, 9, 11, 12, 13, 14, 10, 15, 16, 17, 18, 20, 21, 22, 23, 24, 19, 25, 26] [10, 19] rfl (by decide +kernel) ?_)
    refine DWp.evs 4 rfl ?_
    refine DWp.part 127 rfl (fun cc21 => absurd (ndT cc21) (by exact fun h => h rfl)) (fun cc21 => ?_)
    have cc21 := ndF cc21
    refine DWp.evs 5 rfl ?_
    refine DWp.part 132 rfl (fun cc22 => (by contradiction)) (fun cc22 => ?_)
    refine DWp.evs 4 rfl ?_
    refine DWp.load hsm2 rfl rfl rfl rfl rfl rfl rfl ?_
    refine DWp.stepGrow rfl rfl rfl (Step.call rfl rfl rfl rfl rfl rfl ((nowW hW2 (fun x hx => List.mem_append_left _ hx) ?_)))
    refine ⟨fun _ hy => hy, ?_⟩
    refine DWp.evs 3 rfl ?_
    refine DWp.part 141 rfl (fun cc23 => absurd (ndT cc23) (by exact fun h => h rfl)) (fun cc23 => ?_)
    have cc23 := ndF cc23
    refine DWp.evs 4 rfl ?_
    refine DWp.load hsm2 rfl rfl rfl rfl rfl rfl rfl ?_
    refine DWp.evs 1 rfl ?_
    refine DWp.stepGrow rfl rfl rfl (Step.call rfl rfl rfl rfl rfl rfl ((lenW hW2 (fun x hx => List.mem_append_left _ hx) ?_)))
    refine ⟨fun _ hy => hy, ?_⟩
    refine DWp.evs 2 rfl ?_
    refine DWp.nil ?_
    refine Wp.cond rfl (fun cc24 => absurd (ndT cc24) (by rw [hsl2]; exact fun h => h rfl)) (fun cc24 => ?_)
    have cc24 := ndF cc24
    refine Wp.skip ?_
    refine Wp.region ?_
    refine OWp.evs 3 rfl ?_
    refine OWp.nil ?_
    exact ⟨(i + 1, _, now2, put2, W2, R2), by simp only; omega, ⟨by simp only; omega, hMl2, hput2, hW2, hR2⟩, .cons rfl (.cons rfl (.cons rfl (.cons' rfl (int_eq (i64_inc (by omega))) (.nil _)))), .refl _⟩
  by_cases hlt : i < zs.length
  · skip
    refine OWp.evs 5 rfl ?_
    refine OWp.part 35 rfl (fun cc25 => ?_) (fun cc25 => absurd (of_decide_eq_false cc25) (by omega))
    have cc25 := of_decide_eq_true cc25
    refine OWp.evs 3 rfl ?_
    refine OWp.nil ?_
    refine Wp.cond rfl (fun cc26 => absurd (of_decide_eq_true cc26) (by omega)) (fun cc26 => ?_)
    have cc26 := of_decide_eq_false cc26
    refine Wp.exit ?_
    refine Wp.seq (Wp.region ?_)
    refine OWp.evs 1 rfl ?_
    refine OWp.nil ?_
    refine Wp.ret ⟨trivial, _, ⟨_, _, rfl, rfl, rfl⟩, ?_⟩
    rfl
  refine OWp.evs 5 rfl ?_
  refine OWp.part 35 rfl (fun cc27 => absurd (of_decide_eq_true cc27) (by omega)) (fun cc27 => ?_)
  have cc27 := of_decide_eq_false cc27
  refine OWp.evs 3 rfl ?_
  refine OWp.nil ?_
  refine Wp.cond rfl (fun c => nomatch c) (fun _ => ?_)
  refine Wp.exit ?_
  refine Wp.seq (Wp.region ?_)
  refine OWp.evs 1 rfl ?_
  refine OWp.nil ?_
  refine Wp.ret ⟨trivial, _, ⟨_, _, rfl, rfl, rfl⟩, ?_⟩
  rfl
end
end Go.Proofs.E
