/- What functions of the given program do, one after the other, told by that layer. -/
import Derived.Test.YtnjgekonoladfaaWWheelK
namespace Go.Lg
theorem DWp.perm0 {P : Program} {B n : Nat} {ops : Array Oper} {Q : Exit → Env → Ents → Prop} {E : Env} {S S' : Ents} {muts : List Nat} {l : Array Bool} {rest : List Nat} (h : S.Perm S') (hc : DWp P B n ops muts l rest [] Q E S') : DWp P B n ops muts l rest [] Q E S :=
  fun hgo a w hS hA => hc ⟨hgo.closed, hgo.ok, hgo.sel, fun _ hx => nomatch hx⟩ a w (hS.perm h) hA
end Go.Lg
namespace Go.Proofs.E
open Go.Lg Go.Whl
set_option maxRecDepth 100000

theorem erase_ne {l : List T} (hn : l.Pairwise fun a b => a.no ≠ b.no) {i : Nat} (hi : i < l.length) {n : Int} (h : (l[i].no : Int) = n) (hb : ∀ t ∈ l.take i, (t.no : Int) ≠ n) : l.take i ++ l.drop (i + 1) = l.filter fun t => decide ((t.no : Int) ≠ n) := by
  have e : l = l.take i ++ l[i] :: l.drop (i + 1) := by rw [← List.drop_eq_getElem_cons hi, List.take_append_drop]
  rw [e] at hn
  obtain ⟨_, h2, _⟩ := List.pairwise_append.1 hn
  obtain ⟨h4, _⟩ := List.pairwise_cons.1 h2
  conv => rhs; rw [e]
  rw [List.filter_append, List.filter_cons_of_neg (by simp [h])]
  rw [List.filter_eq_self.2, List.filter_eq_self.2]
  · intro t ht
    have := h4 t ht
    simp; omega
  · intro t ht
    have := hb t ht
    simp; omega

theorem split_filter {L : List T} {k to : Nat} (h1 : ∀ u ∈ L.take k, u.due ≤ to) (h2 : ∀ u ∈ L.drop k, to < u.due) :
    L.filter (fun t => decide (t.due ≤ to)) = L.take k ∧ L.filter (fun t => decide (to < t.due)) = L.drop k := by
  have e : L = L.take k ++ L.drop k := (List.take_append_drop k L).symm
  constructor
  · conv => lhs; rw [e]
    rw [List.filter_append, List.filter_eq_self.2, List.filter_eq_nil_iff.2, List.append_nil]
    · intro t ht; have := h2 t ht; simp; omega
    · intro t ht; have := h1 t ht; simp; omega
  · conv => lhs; rw [e]
    rw [List.filter_append, List.filter_eq_nil_iff.2, List.filter_eq_self.2, List.nil_append]
    · intro t ht; have := h2 t ht; simp; omega
    · intro t ht; have := h1 t ht; simp; omega

section
variable {B : Nat} {S R : Ents} {Q : Value → Ents → Prop}

set_option maxHeartbeats 2000000 in
theorem rCancelC {r now put : Nat} {L : List T} {W : Ents} {number : Int} (h : Rf B r L now put W) (hn : L.Pairwise fun a b => a.no ≠ b.no) (hl : L.length ≤ 4096)
    (H0 : ∀ t ∈ L, (t.no : Int) = number → ∀ W', Rf B r (L.filter fun t => decide ((t.no : Int) ≠ number)) now put W' → Q (.int .i64 0) (W' ++ S))
    (H5 : (∀ t ∈ L, (t.no : Int) ≠ number) → Q (.int .i64 5) (W ++ S)) :
    CallWp Try.prog B 20 #[pt r, .int .i64 number] Q (W ++ S) := by
  obtain ⟨hB, hup, lv, le, hown, rfl⟩ := h
  obtain ⟨la, lc, rfl⟩ := hown.reads.form
  refine subRet ?_
  refine CallWp.enter (args := [_, _]) Try.func20 rfl Try.ntmps20 rfl ?_
  refine Wp.seq (Wp.region ?_)
  refine OWp.evs 1 rfl ?_
  refine OWp.nil ?_
  refine Wp.seq ?_
  refine Wp.seq (Wp.region ?_)
  refine OWp.evs 1 rfl ?_
  refine OWp.nil ?_
  refine Wp.block ?_
  refine Wp.loopS (α := Nat) (fun i => L.length - i) (fun i => [(0, pt r), (1, .int .i64 number), (5, .int .i64 (i : Int))]) (fun _ => rE r (.slice la L.length lc) now put :: (le ++ S)) (fun i => i ≤ L.length ∧ ∀ u ∈ L.take i, (u.no : Int) ≠ number) 0 ?_ (.refl _) ⟨Nat.zero_le _, by rw [List.take_zero]; exact fun _ h => nomatch h⟩ ?_
  · exact .cons rfl (.cons rfl (.cons rfl (.nil _)))
  rintro i ⟨hi, hb⟩
  refine Wp.seq ?_
  refine Wp.seq (Wp.region ?_)
  refine OWp.evs 4 rfl ?_
  refine OWp.load (.head _) rfl rfl rfl rfl rfl ?_
  refine OWp.evs 2 rfl ?_
  refine OWp.nil ?_
  refine Wp.cond rfl (fun h1 => ?_) (fun h1 => ?_)
  · have h1 := of_decide_eq_true h1
    have hi1 : i < L.length := by omega
    have hsucc : L.take (i + 1) = L.take i ++ [L[i]] := List.take_succ_eq_append_getElem hi1
    obtain ⟨b1, o1, c1, L1, e, fz, hvl, hm, hat⟩ := tcell_at hown.reads (by omega)
    cases hvl
    refine Wp.skip ?_
    refine Wp.seq ?_
    refine Wp.block ?_
    refine Wp.seq (Wp.region ?_)
    refine OWp.evs 3 rfl ?_
    refine OWp.load (.head _) rfl rfl rfl rfl rfl ?_
    refine OWp.evs 1 rfl ?_
    refine OWp.g rfl rfl (Gives.indexAddrSlice (i) rfl rfl rfl rfl rfl rfl (by omega)) ?_
    refine OWp.evs 1 rfl ?_
    refine OWp.load (.tail _ (List.mem_append_left _ hm)) rfl rfl rfl rfl (hat i hi1).2.2 ?_
    refine OWp.evs 2 rfl ?_
    refine OWp.nil ?_
    refine Wp.cond rfl (fun heq => ?_) (fun heq => ?_)
    · have heq := of_decide_eq_true heq
      have her := erase_ne hn hi1 heq hb
      obtain ⟨u1, hg1, hr1⟩ := cutOf hown (l := 0) (h' := i) (Nat.zero_le _) hi
      obtain ⟨u2, hg2, hr2⟩ := cutOf hown (l := i + 1) (h' := L.length) hi1 (Nat.le_refl _)
      rw [List.drop_zero, Nat.sub_zero] at hr1
      rw [List.take_of_length_le (by rw [List.length_drop]; exact Nat.le_refl _)] at hr2
      refine Wp.seq (Wp.regionDraw [0, 2, 3, 4, 5, 6, 7, 9, 10, 11, 12, 13, 14, 15, 1, 8, 16, 17, 18, 19] [1, 8, 16, 19] rfl (by decide +kernel) ?_)
      refine DWp.evs 4 rfl ?_
      refine DWp.load (.head _) rfl rfl rfl rfl rfl rfl rfl ?_
      refine DWp.evs 1 rfl ?_
      refine DWp.g rfl rfl rfl rfl (hg1 rfl rfl rfl rfl rfl ⟨_, _, rfl, rfl⟩) ?_
      refine DWp.evs 3 rfl ?_
      refine DWp.load (.head _) rfl rfl rfl rfl rfl rfl rfl ?_
      refine DWp.evs 2 rfl ?_
      refine DWp.g rfl rfl rfl rfl (hg2 rfl rfl rfl rfl ⟨_, _, rfl, i64_inc (by omega)⟩ rfl) ?_
      refine DWp.stepGrow rfl rfl rfl (Step.buildSlice rfl rfl rfl ?_); intro Lb hBLb hLLb; refine ⟨fun _ hy => .tail _ hy, ?_⟩
      refine DWp.step rfl rfl rfl (Step.appendAt [] rfl rfl rfl rfl rfl rfl (by decide) rfl rfl (Own.row (k := 0) hBLb rfl (Nat.zero_le _)) (hr1.mono fun x hx => List.mem_append_right _ (List.mem_append_right _ (.tail _ (List.mem_append_left _ hx)))) (tcs_cells _) (by show (_ + _) * 24 ≤ _; omega) (by unfold maxLen; omega) ?_)
      intro v1 e1 ho1 _
      refine ⟨by (repeat (first | exact pr_nil | refine pr_kept ?_ | refine pr_free ?_ | refine pr_cons (by repeat (first | exact List.Mem.head _ | assumption | apply List.mem_cons_of_mem | apply List.mem_append_right)) ?_)), ?_⟩
      refine DWp.stepAll rfl rfl rfl rfl (Step.appendAt [] rfl rfl rfl rfl rfl rfl (by decide) rfl rfl ho1 (hr2.mono fun x hx => List.mem_append_right _ (List.mem_append_right _ (.tail _ (List.mem_append_left _ hx)))) (tcs_cells _) (by show (_ + _) * 24 ≤ _; omega) (by unfold maxLen; omega) ?_)
      intro v3 e3 ho3 _
      obtain ⟨xa, xc, rfl⟩ := ho3.reads.form
      refine DWp.perm0 (S' := rE r _ now put :: (e3 ++ (le ++ S))) List.perm_middle ?_
      refine DWp.evs 2 rfl ?_
      refine DWp.stepAll rfl rfl rfl rfl (Step.storeAs 0 [.slice xa (0 + i + (L.length - (i + 1))) xc, .int .i64 (now : Int), .int .i64 (put : Int)] rfl rfl rfl rfl rfl hB rfl (Unfz.zero _) rfl (Nat.le_of_ble_eq_true rfl) rfl rfl ?_)
      refine DWp.nil ?_
      refine Wp.seq (Wp.region ?_)
      refine OWp.evs 1 rfl ?_
      refine OWp.nil ?_
      refine Wp.ret ⟨trivial, _, ⟨_, _, rfl, rfl, rfl⟩, ?_⟩
      refine ⟨_, _, .refl _, .cons_cons _ ((List.Sublist.refl _).append (List.sublist_append_right _ _)), H0 _ (List.getElem_mem hi1) heq _ ⟨hB, hup.filter _, _, _, ?_, rfl⟩⟩
      rw [← her, show (L.take i ++ L.drop (i + 1)).length = 0 + i + (L.length - (i + 1)) by simp; omega, tcs_append]
      exact ho3
    have heq := of_decide_eq_false heq
    refine Wp.skip ?_
    refine Wp.region ?_
    refine OWp.evs 3 rfl ?_
    refine OWp.nil ?_
    refine ⟨i + 1, by omega, ⟨by omega, fun u hu => ?_⟩, .cons rfl (.cons rfl (.cons' rfl (int_eq (i64_inc (by omega))) (.nil _))), .refl _⟩
    rw [hsucc] at hu
    rcases List.mem_append.1 hu with hu | hu
    · exact hb u hu
    · rw [List.mem_singleton.1 hu]; exact heq
  have h1 := of_decide_eq_false h1
  obtain rfl : i = L.length := by omega
  rw [List.take_length] at hb
  refine Wp.exit ?_
  refine Wp.seq (Wp.region ?_)
  refine OWp.evs 1 rfl ?_
  refine OWp.nil ?_
  refine Wp.ret ⟨trivial, _, ⟨_, _, rfl, rfl, rfl⟩, ?_⟩
  exact ⟨_, _, .refl _, .refl _, H5 hb⟩
set_option maxHeartbeats 2000000 in
theorem rAdvC {r now put to : Nat} {L : List T} {W : Ents} {zt : Int} (hzt : zt = (to : Int)) (h : Rf B r L now put W) (hle : now ≤ to) (hto : to ≤ 1099511627776) (hl : L.length ≤ 4096)
    (H : ∀ W' ov oe, Rf B r (L.filter fun t => decide (to < t.due)) to put W' → Own B 3 1 ov ((L.filter fun t => decide (t.due ≤ to)).map (·.id)).length (zi ((L.filter fun t => decide (t.due ≤ to)).map (·.id))) oe → Q (.tuple #[ov, .int .i64 0]) (W' ++ (oe ++ S))) :
    CallWp Try.prog B 21 #[pt r, .int .i64 zt] Q (W ++ S) := by
  subst hzt
  obtain ⟨hB, hup, lv, le, hown, rfl⟩ := h
  obtain ⟨la, lc, rfl⟩ := hown.reads.form
  refine subRet ?_
  refine CallWp.enter (args := [_, _]) Try.func21 rfl Try.ntmps21 rfl ?_
  refine Wp.seq (Wp.region ?_)
  refine OWp.evs 2 rfl ?_
  refine OWp.nil ?_
  refine Wp.seq ?_
  refine Wp.seq (Wp.region ?_)
  refine OWp.evs 4 rfl ?_
  refine OWp.load (.head _) rfl rfl rfl rfl rfl ?_
  refine OWp.evs 1 rfl ?_
  refine OWp.nil ?_
  refine Wp.cond rfl (fun cc1 => absurd (of_decide_eq_true cc1) (by omega)) (fun cc1 => ?_)
  have cc1 := of_decide_eq_false cc1
  refine Wp.skip ?_
  refine Wp.seq ?_
  refine Wp.seq (Wp.region ?_)
  refine OWp.evs 2 rfl ?_
  refine OWp.nil ?_
  refine Wp.cond rfl (fun cc2 => absurd (of_decide_eq_true cc2) (by omega)) (fun cc2 => ?_)
  have cc2 := of_decide_eq_false cc2
  refine Wp.skip ?_
  refine Wp.seq (Wp.region ?_)
  refine OWp.evs 4 rfl ?_
  refine OWp.step rfl (Step.storeAs 0 [.slice la L.length lc, .int .i64 (to : Int), .int .i64 (put : Int)] rfl rfl rfl rfl rfl hB rfl (Unfz.zero _) rfl (Nat.le_of_ble_eq_true rfl) rfl rfl ?_)
  refine OWp.nil ?_
  refine Wp.seq (Wp.region ?_)
  refine OWp.evs 1 rfl ?_
  refine OWp.nil ?_
  refine Wp.seq ?_
  refine Wp.block ?_
  refine Wp.loopS (α := Nat × Value × Ents × Value × Ents) (fun z => L.length - z.1) (fun z => [(0, pt r), (1, .int .i64 (to : Int)), (6, z.2.1)]) (fun z => z.2.2.1 ++ (rE r z.2.2.2.1 to put :: (z.2.2.2.2 ++ S))) (fun z => z.1 ≤ L.length ∧ (∀ u ∈ L.take z.1, u.due ≤ to) ∧ Own B 3 1 z.2.1 ((L.take z.1).map (·.id)).length (zi ((L.take z.1).map (·.id))) z.2.2.1 ∧ Own B 68 3 z.2.2.2.1 (L.drop z.1).length (tcs (L.drop z.1)) z.2.2.2.2) (0, .slice none 0 0, [], .slice la L.length lc, le) ?_ (.refl _) ⟨Nat.zero_le _, (fun _ h => by simp at h), Own.nil _ _ _, hown⟩ ?_
  · exact .cons rfl (.cons rfl (.cons rfl (.nil _)))
  rintro ⟨k, ov, oe, lv, le1⟩ ⟨hk, hb, ho, hown1⟩
  simp only at hk hb ho hown1 ⊢
  obtain ⟨la1, lc1, rfl⟩ := hown1.reads.form
  have hdl : (L.drop k).length = L.length - k := List.length_drop
  have htl : ((L.take k).map (·.id)).length = k := by rw [List.length_map, List.length_take]; omega
  refine Wp.seq ?_
  refine Wp.seq (Wp.region ?_)
  refine OWp.evs 3 rfl ?_
  refine OWp.load (List.mem_append_right _ (.head _)) rfl rfl rfl rfl rfl ?_
  by_cases hk0 : k = L.length
  · skip
    refine OWp.evs 3 rfl ?_
    refine OWp.part 25 rfl (fun cc3 => absurd (of_decide_eq_true cc3) (by omega)) (fun cc3 => ?_)
    have cc3 := of_decide_eq_false cc3
    have hab : ∀ u ∈ L.drop k, to < u.due := by rw [hk0, List.drop_length]; exact fun _ h => nomatch h
    obtain ⟨hs1, hs2⟩ := split_filter hb hab
    refine OWp.evs 10 rfl ?_
    refine OWp.nil ?_
    refine Wp.cond rfl (fun c => nomatch c) (fun _ => ?_)
    refine Wp.exit ?_
    refine Wp.seq (Wp.region ?_)
    refine OWp.evs 3 rfl ?_
    refine OWp.nil ?_
    refine Wp.ret ⟨trivial, _, ⟨_, _, rfl, rfl, _, _, rfl, rfl, rfl⟩, ?_⟩
    refine ⟨_, _, List.perm_middle.trans (.cons _ (List.perm_append_comm_assoc _ _ _)), .refl _, ?_⟩
    rw [hs1, hs2] at H
    exact H _ _ _ ⟨hB, hup.drop, _, _, hown1, rfl⟩ ho
  have hk1 : k < L.length := by omega
  have hpos : 0 < (L.drop k).length := by omega
  obtain ⟨b1, o1, c1, L1, e, fz, hvl, hm, hat⟩ := tcell_at hown1.reads hpos
  cases hvl
  have e0 : (L.drop k)[0] = L[k] := by simp
  have hat0 := hat 0 hpos
  rw [e0] at hat0
  have hsucc : L.take (k + 1) = L.take k ++ [L[k]] := List.take_succ_eq_append_getElem hk1
  refine OWp.evs 3 rfl ?_
  refine OWp.part 25 rfl (fun cc4 => ?_) (fun cc4 => absurd (of_decide_eq_false cc4) (by omega))
  have cc4 := of_decide_eq_true cc4
  refine OWp.evs 3 rfl ?_
  refine OWp.load (List.mem_append_right _ (.head _)) rfl rfl rfl rfl rfl ?_
  refine OWp.g rfl rfl (Gives.indexAddrSlice (0) rfl rfl rfl rfl rfl rfl (by omega)) ?_
  refine OWp.evs 1 rfl ?_
  refine OWp.load (List.mem_append_right _ (.tail _ (List.mem_append_left _ hm))) rfl rfl rfl rfl hat0.1 ?_
  refine OWp.evs 3 rfl ?_
  refine OWp.nil ?_
  refine Wp.cond rfl (fun h2 => ?_) (fun h2 => ?_)
  · have h2 := of_decide_eq_true h2
    obtain ⟨u1, hg1, hr1⟩ := cutOf hown1 (l := 1) (h' := (L.drop k).length) hpos (Nat.le_refl _)
    rw [List.take_of_length_le (by rw [List.length_drop]; exact Nat.le_refl _), List.drop_drop] at hr1
    refine Wp.skip ?_
    refine Wp.block ?_
    refine Wp.seq (Wp.region ?_)
    refine OWp.evs 4 rfl ?_
    refine OWp.load (List.mem_append_right _ (.head _)) rfl rfl rfl rfl rfl ?_
    refine OWp.g rfl rfl (Gives.indexAddrSlice (0) rfl rfl rfl rfl rfl rfl (by omega)) ?_
    refine OWp.evs 1 rfl ?_
    refine OWp.load (List.mem_append_right _ (.tail _ (List.mem_append_left _ hm))) rfl rfl rfl rfl hat0.2.1 ?_
    refine OWp.step rfl (Step.buildSlice rfl rfl rfl ?_); intro Lp5 hBLp5 hLLp5
    refine OWp.step rfl (Step.appendAt [_] rfl rfl rfl rfl rfl rfl (by decide) rfl rfl ho (Reads.row (k := 1) (sz := 1) (.head _) (Nat.le_of_ble_eq_true rfl)) rfl (by show (_ + 1) * 8 ≤ _; omega) (by unfold maxLen; omega) ?_); intro x oe2 ho2 _
    refine OWp.dropAt 0 rfl ?_
    refine OWp.evs 1 rfl ?_
    refine OWp.nil ?_
    refine Wp.region ?_
    refine OWp.evs 1 rfl ?_
    refine OWp.step rfl (Step.buildSlice rfl rfl rfl ?_); intro Lb hBLb hLLb
    refine OWp.evs 3 rfl ?_
    refine OWp.load (.tail _ (List.mem_append_right _ (List.mem_append_right _ (.head _)))) rfl rfl rfl rfl rfl ?_
    refine OWp.g rfl rfl (hg1 rfl rfl rfl rfl ⟨_, _, rfl, rfl⟩ rfl) ?_
    refine OWp.step rfl (Step.appendAt (m := (L.drop k).length - 1) [] rfl rfl rfl rfl rfl rfl (by decide) rfl rfl (Own.row (k := 0) hBLb rfl (Nat.zero_le _)) (hr1.mono fun x hx => List.mem_append_right _ (List.mem_append_right _ (List.mem_append_right _ (.tail _ (List.mem_append_left _ hx))))) (tcs_cells _) (by show (_ + _) * 24 ≤ _; omega) (by unfold maxLen; omega) ?_)
    intro v3 e3 ho3 _
    obtain ⟨xa, xc, rfl⟩ := ho3.reads.form
    refine OWp.permS (S' := rE r _ to put :: (e3 ++ (oe2 ++ (le1 ++ S)))) ((List.perm_middle.append_left e3).trans List.perm_middle) ?_
    refine OWp.evs 2 rfl ?_
    refine OWp.step rfl (Step.storeAs 0 [.slice xa (0 + ((L.drop k).length - 1)) xc, .int .i64 (to : Int), .int .i64 (put : Int)] rfl rfl rfl rfl rfl hB rfl (Unfz.zero _) rfl (Nat.le_of_ble_eq_true rfl) rfl rfl ?_)
    refine OWp.permS (((List.perm_append_comm_assoc e3 oe2 _).cons _).trans List.perm_middle.symm) ?_
    refine OWp.drop (S' := oe2 ++ (rE r (.slice xa (0 + ((L.drop k).length - 1)) xc) to put :: (e3 ++ S))) ((List.Sublist.refl _).append (.cons_cons _ ((List.Sublist.refl _).append (List.sublist_append_right _ _)))) ?_
    refine OWp.nil ?_
    refine ⟨(k + 1, x, oe2, _, e3), by simp only; omega, ⟨by simp only; omega, ?_, ?_, ?_⟩, .cons rfl (.cons rfl (.cons rfl (.nil _))), .refl _⟩
    · simp only
      rw [hsucc]
      intro u hu
      rcases List.mem_append.1 hu with hu | hu
      · exact hb u hu
      · rw [List.mem_singleton.1 hu]; omega
    · simp only
      rw [hsucc, List.map_append, List.length_append, zi_append]
      exact ho2
    · simp only
      rw [show (L.drop (k + 1)).length = 0 + ((L.drop k).length - 1) by rw [List.length_drop, List.length_drop]; omega]
      exact ho3
  have h2 := of_decide_eq_false h2
  have hab : ∀ u ∈ L.drop k, to < u.due := by
    intro u hu
    have hd := hup.drop (i := k)
    rw [List.drop_eq_getElem_cons hk1] at hu hd
    rcases List.mem_cons.1 hu with rfl | hu
    · omega
    · have := (List.pairwise_cons.1 hd).1 u hu; omega
  obtain ⟨hs1, hs2⟩ := split_filter hb hab
  refine Wp.exit ?_
  refine Wp.seq (Wp.region ?_)
  refine OWp.evs 3 rfl ?_
  refine OWp.nil ?_
  refine Wp.ret ⟨trivial, _, ⟨_, _, rfl, rfl, _, _, rfl, rfl, rfl⟩, ?_⟩
  refine ⟨_, _, List.perm_middle.trans (.cons _ (List.perm_append_comm_assoc _ _ _)), .refl _, ?_⟩
  rw [hs1, hs2] at H
  exact H _ _ _ ⟨hB, hup.drop, _, _, hown1, rfl⟩ ho
end
end Go.Proofs.E
