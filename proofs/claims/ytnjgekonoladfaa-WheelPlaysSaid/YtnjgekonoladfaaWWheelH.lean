/- What functions of the given program do, one after the other, told by that layer. -/
import Derived.Test.YtnjgekonoladfaaWWheelG
namespace Go.Proofs.E
open Go.Lg Go.Whl
set_option maxRecDepth 100000

abbrev iv (i : Int) : Value := .int .i64 i
/-- The earliest timer, or none. -/
def First (M : List T) (t : T) (b : Bool) : Prop := (b = false ∧ M = [] ∧ t = ⟨0, 0, 0⟩) ∨ (b = true ∧ t ∈ M ∧ ∀ u ∈ M, t.due ≤ u.due)
theorem left_all' {M : List T} {t : T} {to : Nat} (h : ∀ u ∈ M, t.due ≤ u.due) (ht : to < t.due) : ∀ u ∈ M, to < u.due := fun u hu => Nat.lt_of_lt_of_le ht (h u hu)
theorem cut_less {M : List T} {t : T} (ht : t ∈ M) : (M.filter fun u => !(u.due == t.due)).length < M.length := by
  have h := filter_not_len (fun u : T => u.due == t.due) M
  have h2 : 0 < (M.filter fun u => u.due == t.due).length := List.length_pos_of_mem (List.mem_filter.2 ⟨ht, by simp⟩)
  omega

theorem perm7 {α : Type} (w c : α) (F de oe R : List α) : (w :: (F ++ (de ++ (c :: (oe ++ R))))).Perm (oe ++ (c :: (w :: (F ++ (de ++ R))))) := by
  have h1 : (de ++ (c :: (oe ++ R))).Perm (c :: (oe ++ (de ++ R))) := List.perm_middle.trans (.cons _ (List.perm_append_comm_assoc _ _ _))
  have h2 : (F ++ (c :: (oe ++ (de ++ R)))).Perm (c :: (oe ++ (F ++ (de ++ R)))) := List.perm_middle.trans (.cons _ (List.perm_append_comm_assoc _ _ _))
  have h3 : (oe ++ (c :: (w :: (F ++ (de ++ R))))).Perm (c :: w :: (oe ++ (F ++ (de ++ R)))) := List.perm_middle.trans (.cons _ List.perm_middle)
  exact ((((h1.append_left F).trans h2).cons w).trans (.swap _ _ _)).trans h3.symm

attribute [local irreducible] wv flatE tabM slotAt
section
variable {B : Nat} {S R : Ents} {Q : Value → Ents → Prop}

theorem first2C {p now put many : Nat} {M : List T} {v : Nat → Value} {es : Nat → Ents} (hw : WOk B M now put v es) (hp : put ≤ 1099511627776)
    (H : ∀ t b, First M t b → Q (.tuple #[.agg (tc t).toArray, .bool b]) (wE p v now put many :: (flatE es 448 ++ R))) :
    CallWp Try.prog B 25 #[pt p] Q (wE p v now put many :: (flatE es 448 ++ R)) :=
  firstC hw hp (fun h => H ⟨0, 0, 0⟩ false (.inl ⟨rfl, h, rfl⟩)) (fun t ht h => H t true (.inr ⟨rfl, ht, h⟩))

theorem nextC {p now put many : Nat} {M : List T} {v : Nat → Value} {es : Nat → Ents} (hw : WOk B M now put v es) (hp : put ≤ 1099511627776)
    (H : ∀ t b, First M t b → Q (.tuple #[iv (t.due : Int), .bool b]) (wE p v now put many :: (flatE es 448 ++ R))) :
    CallWp Try.prog B 15 #[pt p] Q (wE p v now put many :: (flatE es 448 ++ R)) := by
  refine CallWp.dropRet ?_
  refine CallWp.enter (args := [_]) Try.func15 rfl Try.ntmps15 rfl ?_
  refine Wp.seq (Wp.region ?_)
  refine OWp.evs 2 rfl ?_
  refine OWp.nil ?_
  refine Wp.seq (Wp.region ?_)
  refine OWp.evs 1 rfl ?_
  refine OWp.step rfl (Step.call rfl rfl rfl rfl rfl rfl ((first2C hw hp ?_)))
  intro t b hc
  refine OWp.evs 3 rfl ?_
  refine OWp.step rfl (Step.alloc rfl rfl rfl ?_); intro L4 hBL4 hLL4
  refine OWp.step rfl (Step.storeAs 0 (tc t) rfl rfl rfl rfl rfl hBL4 rfl (Unfz.zero _) rfl (Nat.le_of_ble_eq_true rfl) rfl rfl ?_)
  refine OWp.evs 1 rfl ?_
  refine OWp.nil ?_
  refine Wp.seq (Wp.region ?_)
  refine OWp.evs 1 rfl ?_
  refine OWp.load (.head _) rfl rfl rfl rfl rfl ?_
  refine OWp.evs 3 rfl ?_
  refine OWp.nil ?_
  refine Wp.ret ⟨trivial, _, ⟨_, _, rfl, rfl, _, _, rfl, rfl, rfl⟩, ?_⟩
  exact ⟨_, List.sublist_cons_self _ _, H t b hc⟩
theorem advLateC {p now put many : Nat} {v : Nat → Value} {zt : Int} (hm : wE p v now put many ∈ S) (ht : zt < (now : Int)) (H : Q (.tuple #[.slice none 0 0, .int .i64 140]) S) :
    CallWp Try.prog B 11 #[pt p, .int .i64 zt] Q S := by
  refine CallWp.enter (args := [_, _]) Try.func11 rfl Try.ntmps11 rfl ?_
  refine Wp.seq (Wp.region ?_)
  refine OWp.evs 2 rfl ?_
  refine OWp.nil ?_
  refine Wp.seq ?_
  refine Wp.block ?_
  refine Wp.seq (Wp.region ?_)
  refine OWp.evs 4 rfl ?_
  refine OWp.load hm rfl rfl rfl rfl (wv_now rfl) ?_
  refine OWp.evs 2 rfl ?_
  refine OWp.nil ?_
  refine Wp.cond rfl (fun cc1 => ?_) (fun cc1 => absurd (of_decide_eq_false cc1) (by omega))
  have cc1 := of_decide_eq_true cc1
  refine Wp.seq (Wp.region ?_)
  refine OWp.evs 2 rfl ?_
  refine OWp.nil ?_
  refine Wp.ret ⟨trivial, _, ⟨_, _, rfl, rfl, _, _, rfl, rfl, rfl⟩, ?_⟩
  exact H
theorem advFarC {p now put many : Nat} {v : Nat → Value} {zt : Int} (hm : wE p v now put many ∈ S) (ht : (now : Int) ≤ zt) (ht2 : 1099511627776 < zt) (H : Q (.tuple #[.slice none 0 0, .int .i64 1]) S) :
    CallWp Try.prog B 11 #[pt p, .int .i64 zt] Q S := by
  refine CallWp.enter (args := [_, _]) Try.func11 rfl Try.ntmps11 rfl ?_
  refine Wp.seq (Wp.region ?_)
  refine OWp.evs 2 rfl ?_
  refine OWp.nil ?_
  refine Wp.seq ?_
  refine Wp.block ?_
  refine Wp.seq (Wp.region ?_)
  refine OWp.evs 4 rfl ?_
  refine OWp.load hm rfl rfl rfl rfl (wv_now rfl) ?_
  refine OWp.evs 2 rfl ?_
  refine OWp.nil ?_
  refine Wp.cond rfl (fun cc1 => absurd (of_decide_eq_true cc1) (by omega)) (fun cc1 => ?_)
  have cc1 := of_decide_eq_false cc1
  refine Wp.seq (Wp.region ?_)
  refine OWp.evs 3 rfl ?_
  refine OWp.nil ?_
  refine Wp.cond rfl (fun cc2 => ?_) (fun cc2 => absurd (of_decide_eq_false cc2) (by omega))
  have cc2 := of_decide_eq_true cc2
  refine Wp.seq (Wp.region ?_)
  refine OWp.evs 2 rfl ?_
  refine OWp.nil ?_
  refine Wp.ret ⟨trivial, _, ⟨_, _, rfl, rfl, _, _, rfl, rfl, rfl⟩, ?_⟩
  exact H
set_option maxHeartbeats 2000000 in
theorem advC {p now put to : Nat} {M : List T} {v : Nat → Value} {es : Nat → Ents} {zt : Int} (hzt : zt = (to : Int)) (hB : B ≤ p) (hw : WOk B M now put v es) (hp : put ≤ 1099511627776) (hle : now ≤ to) (hto : to ≤ 1099511627776)
    (H : ∀ v' es' ov oe, WOk B (left M to) to put v' es' → Own B 3 1 ov (told M to).length ((told M to).map iv) oe → Q (.tuple #[ov, .int .i64 0]) (wE p v' to put (left M to).length :: (flatE es' 448 ++ (oe ++ R)))) :
    CallWp Try.prog B 11 #[pt p, .int .i64 zt] Q (wE p v now put M.length :: (flatE es 448 ++ R)) := by
  subst hzt
  refine CallWp.dropRet ?_
  refine CallWp.enter (args := [_, _]) Try.func11 rfl Try.ntmps11 rfl ?_
  refine Wp.seq (Wp.region ?_)
  refine OWp.evs 2 rfl ?_
  refine OWp.nil ?_
  refine Wp.seq ?_
  refine Wp.block ?_
  refine Wp.seq (Wp.region ?_)
  refine OWp.evs 4 rfl ?_
  refine OWp.load (.head _) rfl rfl rfl rfl (wv_now rfl) ?_
  refine OWp.evs 2 rfl ?_
  refine OWp.nil ?_
  refine Wp.cond rfl (fun cc1 => absurd (of_decide_eq_true cc1) (by omega)) (fun cc1 => ?_)
  have cc1 := of_decide_eq_false cc1
  refine Wp.seq (Wp.region ?_)
  refine OWp.evs 3 rfl ?_
  refine OWp.nil ?_
  refine Wp.cond rfl (fun cc2 => absurd (of_decide_eq_true cc2) (by omega)) (fun cc2 => ?_)
  have cc2 := of_decide_eq_false cc2
  refine Wp.skip ?_
  refine Wp.seq (Wp.region ?_)
  refine OWp.evs 1 rfl ?_
  refine OWp.nil ?_
  refine Wp.seq ?_
  refine Wp.block ?_
  refine Wp.loopS (α := List Int × List T × Nat × Value × Ents × (Nat → Value) × (Nat → Ents)) (fun z => z.2.1.length) (fun z => [(0, pt p), (1, .int .i64 (to : Int)), (6, z.2.2.2.1)]) (fun z => z.2.2.2.2.1 ++ (wE p z.2.2.2.2.2.1 z.2.2.1 put z.2.1.length :: (flatE z.2.2.2.2.2.2 448 ++ R))) (fun z => WOk B z.2.1 z.2.2.1 put z.2.2.2.2.2.1 z.2.2.2.2.2.2 ∧ Own B 3 1 z.2.2.2.1 z.1.length (z.1.map iv) z.2.2.2.2.1 ∧ z.2.2.1 ≤ to ∧ told M to = z.1 ++ told z.2.1 to ∧ left z.2.1 to = left M to ∧ z.1.length + z.2.1.length ≤ 4096) ([], M, now, .slice none 0 0, [], v, es) ?_ (.refl _) ⟨hw, Own.nil _ _ _, hle, rfl, rfl, by have := hw.len; show 0 + M.length ≤ 4096; omega⟩ ?_
  · exact .cons rfl (.cons rfl (.cons rfl (.nil _)))
  rintro ⟨acc, N, nw, ov, oe, v1, e1⟩ ⟨hw1, ho1, hle1, htold, hleft, hlen1⟩
  simp only at hw1 ho1 hle1 htold hleft hlen1 ⊢
  refine Wp.block ?_
  refine Wp.seq (Wp.region ?_)
  refine OWp.evs 1 rfl ?_
  refine OWp.step rfl (Step.call rfl rfl rfl rfl rfl rfl ((CallWp.permS (List.perm_middle.trans (.cons _ (List.perm_append_comm_assoc _ _ _))) (first2C hw1 hp ?_))))
  intro t b hc
  refine OWp.evs 3 rfl ?_
  refine OWp.step rfl (Step.alloc rfl rfl rfl ?_); intro L7 hBL7 hLL7
  refine OWp.step rfl (Step.storeAs 0 (tc t) rfl rfl rfl rfl rfl hBL7 rfl (Unfz.zero _) rfl (Nat.le_of_ble_eq_true rfl) rfl rfl ?_)
  rcases hc with ⟨rfl, hM, rfl⟩ | ⟨rfl, htm, hmin⟩
  · skip
    subst hM
    refine OWp.evs 1 rfl ?_
    refine OWp.nil ?_
    refine Wp.seq ?_
    refine Wp.seq (Wp.region ?_)
    refine OWp.evs 3 rfl ?_
    refine OWp.part 28 rfl (fun cc3 => ?_) (fun cc3 => (by contradiction))
    refine OWp.evs 5 rfl ?_
    refine OWp.nil ?_
    refine Wp.cond rfl (fun _ => ?_) (fun c => nomatch c)
    refine Wp.exit ?_
    refine Wp.seq (Wp.region ?_)
    refine OWp.evs 2 rfl ?_
    refine OWp.step rfl (Step.call rfl rfl rfl rfl rfl rfl ((CallWp.permS ((List.Perm.swap _ _ _).trans (.cons _ List.perm_middle.symm)) (moveC rfl hB hw1 hle1 hto (fun _ h => nomatch h) ?_))))
    intro v' es' hw2
    refine OWp.nil ?_
    refine Wp.seq (Wp.region ?_)
    refine OWp.evs 3 rfl ?_
    refine OWp.nil ?_
    refine Wp.ret ⟨trivial, _, ⟨_, _, rfl, rfl, _, _, rfl, rfl, rfl⟩, ?_⟩
    refine ⟨_, .cons_cons _ ((List.Sublist.refl _).append (List.sublist_cons_self _ _)), ?_⟩
    have e1 : told M to = acc := by rw [htold]; exact List.append_nil _
    have e2 : left M to = [] := hleft.symm
    rw [e1, e2] at H
    exact H _ _ _ _ hw2 ho1
  refine OWp.evs 1 rfl ?_
  refine OWp.nil ?_
  refine Wp.seq ?_
  refine Wp.seq (Wp.region ?_)
  refine OWp.evs 3 rfl ?_
  refine OWp.part 28 rfl (fun cc4 => (by contradiction)) (fun cc4 => ?_)
  refine OWp.evs 1 rfl ?_
  refine OWp.load (.head _) rfl rfl rfl rfl rfl ?_
  refine OWp.evs 3 rfl ?_
  refine OWp.nil ?_
  refine Wp.cond rfl (fun h2 => ?_) (fun h2 => ?_)
  · have h2 := of_decide_eq_true h2
    have hlate := left_all' hmin (show to < t.due by omega)
    refine Wp.exit ?_
    refine Wp.seq (Wp.region ?_)
    refine OWp.evs 2 rfl ?_
    refine OWp.step rfl (Step.call rfl rfl rfl rfl rfl rfl ((CallWp.permS ((List.Perm.swap _ _ _).trans (.cons _ List.perm_middle.symm)) (moveC rfl hB hw1 hle1 hto (fun u h => Nat.le_of_lt (hlate u h)) ?_))))
    intro v' es' hw2
    refine OWp.nil ?_
    refine Wp.seq (Wp.region ?_)
    refine OWp.evs 3 rfl ?_
    refine OWp.nil ?_
    refine Wp.ret ⟨trivial, _, ⟨_, _, rfl, rfl, _, _, rfl, rfl, rfl⟩, ?_⟩
    refine ⟨_, .cons_cons _ ((List.Sublist.refl _).append (List.sublist_cons_self _ _)), ?_⟩
    have e1 : told M to = acc := by rw [htold, told_none hlate, List.append_nil]
    have e2 : left M to = N := by rw [← hleft, left_all hlate]
    rw [e1, e2] at H
    exact H _ _ _ _ hw2 ho1
  have h2 := of_decide_eq_false h2
  have hdto : t.due ≤ to := by omega
  have hft := hw1.fit t htm
  refine Wp.skip ?_
  refine Wp.seq (Wp.region ?_)
  refine OWp.evs 2 rfl ?_
  refine OWp.load (.head _) rfl rfl rfl rfl rfl ?_
  refine OWp.step rfl (Step.call rfl rfl rfl rfl rfl rfl ((CallWp.permS ((List.Perm.swap _ _ _).trans (.cons _ List.perm_middle.symm)) (moveC rfl hB hw1 hft.1 hft.2 hmin ?_))))
  intro v2 e2 hw2
  refine OWp.nil ?_
  refine Wp.seq (Wp.region ?_)
  refine OWp.evs 1 rfl ?_
  refine OWp.step rfl (Step.call rfl rfl rfl rfl rfl rfl ((dueC hB hw2 hp ?_)))
  intro v3 e3 la lc de hw3 hl3
  have hstep := told_step (M := N) hdto hmin
  have hless := cut_less htm
  have hsum := filter_not_len (fun u : T => u.due == t.due) N
  obtain ⟨l, hll⟩ : ∃ l, l = N.filter (·.due == t.due) := ⟨_, rfl⟩
  obtain ⟨N2, hN2⟩ : ∃ N2, N2 = N.filter (fun u => !(u.due == t.due)) := ⟨_, rfl⟩
  have hleft2 : left N2 to = left M to := by rw [hN2, left_step hdto, hleft]
  rw [← hll] at hl3 hstep hsum ⊢
  rw [← hN2] at hw3 hstep hsum hless ⊢
  refine OWp.evs 2 rfl ?_
  refine OWp.nil ?_
  have hN2l := hw3.len
  refine Wp.permS (perm7 _ _ _ _ _ _) ?_
  refine Wp.block ?_
  refine Wp.loopS (α := Nat × Value × Ents) (fun z => l.length - z.1) (fun z => [(0, pt p), (1, .int .i64 (to : Int)), (6, z.2.1), (39, .slice la l.length lc), (40, .int .i64 (l.length : Int)), (41, .int .i64 (z.1 : Int))]) (fun z => z.2.2 ++ ((L7, cel (tc t) 59) :: (wE p v3 t.due put N2.length :: (flatE e3 448 ++ (de ++ R))))) (fun z => z.1 ≤ l.length ∧ Own B 3 1 z.2.1 (acc ++ (l.take z.1).map (·.id)).length ((acc ++ (l.take z.1).map (·.id)).map iv) z.2.2) (0, ov, oe) ?_ (.refl _) ⟨Nat.zero_le _, by simp only [List.take_zero, List.map_nil, List.append_nil]; exact ho1⟩ ?_
  · exact .cons rfl (.cons rfl (.cons rfl (.cons rfl (.cons rfl (.cons rfl (.nil _))))))
  rintro ⟨i, ov2, oe2⟩ ⟨hi, ho2⟩
  simp only at hi ho2 ⊢
  refine Wp.seq (Wp.region ?_)
  refine OWp.evs 1 rfl ?_
  refine OWp.nil ?_
  refine Wp.seq ?_
  refine Wp.cond rfl (fun h3 => ?_) (fun h3 => ?_)
  · have h3 := of_decide_eq_true h3
    have hi2 : i < l.length := by omega
    obtain ⟨b1, o1, c1, L, e, fz, hvl, hm, hat⟩ := timer_at hl3 (by omega)
    cases hvl
    have hal : (acc ++ (l.take i).map (·.id)).length ≤ 5000 := by rw [List.length_append, List.length_map, List.length_take]; omega
    refine Wp.skip ?_
    refine Wp.seq ?_
    refine Wp.block ?_
    refine Wp.seq (Wp.region ?_)
    refine OWp.g rfl rfl (Gives.indexAddrSlice (i) rfl rfl rfl rfl rfl rfl (by omega)) ?_
    refine OWp.load (List.mem_append_right _ (.tail _ (.tail _ (List.mem_append_right _ (List.mem_append_left _ hm))))) rfl rfl rfl rfl (hat i hi2) ?_
    refine OWp.step rfl (Step.alloc rfl rfl rfl ?_); intro L10 hBL10 hLL10
    refine OWp.step rfl (Step.storeAs 0 (tc l[i]) rfl rfl rfl rfl rfl hBL10 rfl (Unfz.zero _) rfl (Nat.le_of_ble_eq_true rfl) rfl rfl ?_)
    refine OWp.nil ?_
    refine Wp.region ?_
    refine OWp.evs 2 rfl ?_
    refine OWp.load (.head _) rfl rfl rfl rfl rfl ?_
    refine OWp.step rfl (Step.buildSlice rfl rfl rfl ?_); intro Lp5 hBLp5 hLLp5
    refine OWp.step rfl (Step.appendAt [_, _] rfl rfl rfl rfl rfl rfl (by decide) rfl rfl ho2 (Reads.row (k := 1) (sz := 1) (.head _) (Nat.le_of_ble_eq_true rfl)) rfl (by show (_ + 1) * 8 ≤ _; omega) (by unfold maxLen; omega) ?_); intro x e3' ho3 _
    refine OWp.dropAt 0 rfl ?_
    refine OWp.evs 1 rfl ?_
    refine OWp.nil ?_
    refine Wp.drop (List.sublist_cons_self _ _) ?_
    refine Wp.region ?_
    refine OWp.evs 2 rfl ?_
    refine OWp.nil ?_
    refine ⟨(i + 1, x, e3'), by simp only; omega, ⟨by simp only; omega, ?_⟩, .cons rfl (.cons rfl (.cons rfl (.cons rfl (.cons rfl (.cons' rfl (int_eq (i64_inc (by omega))) (.nil _)))))), .refl _⟩
    simp only
    rw [List.take_succ_eq_append_getElem hi2, List.map_append, ← List.append_assoc, List.length_append, List.map_append (l₁ := acc ++ _)]
    exact ho3
  have h3 := of_decide_eq_false h3
  obtain rfl : i = l.length := by omega
  rw [List.take_length] at ho2
  refine Wp.drop (S' := oe2 ++ (wE p v3 t.due put N2.length :: (flatE e3 448 ++ R))) ((List.Sublist.refl _).append (.cons _ (.cons_cons _ ((List.Sublist.refl _).append (List.sublist_append_right _ _))))) ?_
  refine Wp.exit ?_
  refine ⟨(acc ++ l.map (·.id), N2, t.due, ov2, oe2, v3, e3), hless, ⟨hw3, ho2, hdto, ?_, hleft2, ?_⟩, .cons rfl (.cons rfl (.cons rfl (.nil _))), .refl _⟩
  · simp only
    rw [htold, hstep, List.append_assoc]
  · simp only
    rw [List.length_append, List.length_map]
    omega
end
end Go.Proofs.E
