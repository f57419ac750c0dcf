/- What functions of the given program do, one after the other, told by that layer. -/
import Derived.Test.YtnjgekonoladfaaWWheelE
namespace Go.Proofs.E
open Go.Lg Go.Whl
set_option maxRecDepth 100000

theorem shr_pow {a k : Nat} (hk : k ≤ 6) : (a : Int).fdiv (2 ^ (min (6 * k) IntKind.i64.bits)) = ((a / 64 ^ k : Nat) : Int) := by
  have e1 : min (6 * k) IntKind.i64.bits = 6 * k := by show min (6 * k) 64 = _; omega
  rw [e1, ← pow6, Int.fdiv_eq_ediv_of_nonneg _ (by exact Int.le_of_lt (Int.pow_pos (by decide)))]
  simp
theorem slot_self (now : Nat) (M : List T) {k : Nat} (hk : 0 < k) : slot now M k (dig now k) = [] := by
  apply List.eq_nil_iff_forall_not_mem.2
  intro t ht
  obtain ⟨_, hl, hd⟩ := mem_slot.1 ht
  have h3 := levF_at (now := now) (a := t.due) (k := 6) (by show 0 < lev now t.due; omega)
  rw [show levF now t.due 6 = k from hl] at h3
  exact h3 hd
theorem tabM_in {now : Nat} {M : List T} {j : Nat} {t : T} (h : t ∈ tabM now M j) : t ∈ M := (mem_slot.1 h).1
theorem len_snoc (l : List T) (t : T) : (l ++ [t]).length = l.length + 1 := by simp
theorem tabM_nil (now j : Nat) : tabM now [] j = [] := rfl
theorem tabM_take_le (now : Nat) (l : List T) (i j : Nat) : (tabM now (l.take i) j).length ≤ (tabM now l j).length := by
  have e : tabM now l j = tabM now (l.take i) j ++ tabM now (l.drop i) j := by
    unfold tabM
    rw [← slot_append, List.take_append_drop]
  rw [e, List.length_append]
  omega
theorem relay {B was to : Nat} {M : List T} {v : Nat → Value} {es : Nat → Ents} (hw : was < most) (ht : to < most) (hf : Fit to M) (hle : was ≤ to) {k : Nat} (hk : k ≤ 6) (hk0 : 0 < k) (hne : was / 64 ^ k ≠ to / 64 ^ k)
    (hs : (was / 64 ^ (k + 1) = to / 64 ^ (k + 1) ∧ SlotsOk B (tabM was M) v es) ∨ SlotsOk B (tabM to M) v es) :
    ∃ tab, SlotsOk B tab v es ∧ (∀ j, upd tab (64 * k + dig to k) [] j ++ tabM to (tab (64 * k + dig to k)) j = tabM to M j) ∧ (∀ t ∈ tab (64 * k + dig to k), t ∈ M) ∧ (tab (64 * k + dig to k)).length ≤ M.length := by
  have hd := dig_lt to k
  rcases hs with ⟨h1, hs⟩ | hs
  · refine ⟨_, hs, fun j => ?_, fun t h => tabM_in h, tabM_len _ _ _⟩
    have h2 : dig was k < dig to k := by
      have := Nat.div_le_div_right (c := 64 ^ k) hle
      rw [div_succ was k, div_succ to k, h1] at hne this
      omega
    rw [tabM_at was M hd]
    have h3 := moved hw ht hf (K := k) (by omega) h1 h2 (j / 64) (j % 64)
    rcases h3 with ⟨_, h3⟩ | h3
    · by_cases e : j = 64 * k + dig to k
      · subst e
        rw [upd_same, List.nil_append, tabM_at to _ hd, tabM_at to _ hd, slot_self to _ hk0, slot_self to _ hk0]
      · rw [upd_ne _ _ e]
        rw [if_neg (by omega)] at h3
        exact h3.symm
    · omega
  · have e0 : tabM to M (64 * k + dig to k) = [] := by rw [tabM_at to _ hd, slot_self to _ hk0]
    refine ⟨_, hs, fun j => ?_, fun t h => tabM_in h, tabM_len _ _ _⟩
    rw [e0, tabM_nil, List.append_nil]
    conv => lhs; rw [← e0]
    rw [upd_self]
theorem lay_next {to j0 i : Nat} {tab : Nat → List T} {l : List T} (hi : i < l.length) :
    (fun j => upd tab j0 [] j ++ tabM to (l.take (i + 1)) j) = upd (fun j => upd tab j0 [] j ++ tabM to (l.take i) j) (slotAt to l[i].due) (upd tab j0 [] (slotAt to l[i].due) ++ tabM to (l.take i) (slotAt to l[i].due) ++ [l[i]]) := by
  have e : l.take (i + 1) = l.take i ++ [l[i]] := by rw [List.take_succ_eq_append_getElem hi]
  funext j
  rw [e, tabM_append]
  by_cases h : j = slotAt to l[i].due
  · subst h
    rw [upd_same, upd_same, List.append_assoc]
  · rw [upd_ne _ _ h, upd_ne _ _ h]

attribute [local irreducible] wv flatE tabM slotAt
section
variable {B : Nat} {S R : Ents} {Q : Value → Ents → Prop}

set_option maxHeartbeats 2000000 in
theorem moveC {p was to put many : Nat} {M : List T} {v : Nat → Value} {es : Nat → Ents} {zt : Int} (hzt : zt = (to : Int)) (hB : B ≤ p) (hw : WOk B M was put v es) (hle : was ≤ to) (hto : to ≤ 1099511627776) (hd : ∀ t ∈ M, to ≤ t.due)
    (H : ∀ v' es', WOk B M to put v' es' → Q (.tuple #[]) (wE p v' to put many :: (flatE es' 448 ++ R))) :
    CallWp Try.prog B 26 #[pt p, .int .i64 zt] Q (wE p v was put many :: (flatE es 448 ++ R)) := by
  subst hzt
  have hwm := far_most hw.time
  have htm := far_most hto
  have hf : Fit to M := fun t ht => ⟨hd t ht, far_most (hw.fit t ht).2⟩
  refine CallWp.enter (args := [_, _]) Try.func26 rfl Try.ntmps26 rfl ?_
  refine Wp.seq (Wp.region ?_)
  refine OWp.evs 3 rfl ?_
  refine OWp.load (.head _) rfl rfl rfl rfl (wv_now rfl) ?_
  refine OWp.evs 1 rfl ?_
  refine OWp.nil ?_
  refine Wp.seq (Wp.region ?_)
  refine OWp.evs 4 rfl ?_
  refine OWp.step rfl (Step.storeAs 0 (wv v to put many) rfl rfl rfl rfl rfl hB rfl (Unfz.zero _) rfl (by rw [wv_len]; show 0 + 448 + 1 ≤ 451; decide) (wv_set_now rfl) rfl ?_)
  refine OWp.nil ?_
  refine Wp.seq (Wp.region ?_)
  refine OWp.evs 1 rfl ?_
  refine OWp.nil ?_
  refine Wp.block ?_
  refine Wp.loopS (α := Nat × (Nat → Value) × (Nat → Ents)) (fun z => z.1) (fun z => [(0, pt p), (1, .int .i64 (to : Int)), (4, .int .i64 (was : Int)), (5, .int .i64 (z.1 : Int))]) (fun z => wE p z.2.1 to put many :: (flatE z.2.2 448 ++ R)) (fun z => z.1 ≤ 6 ∧ ((was / 64 ^ (z.1 + 1) = to / 64 ^ (z.1 + 1) ∧ SlotsOk B (tabM was M) z.2.1 z.2.2) ∨ SlotsOk B (tabM to M) z.2.1 z.2.2)) (6, v, es) ?_ (.refl _) ⟨Nat.le_refl _, .inl ⟨by show was / 64 ^ 7 = to / 64 ^ 7; rw [top_zero hwm, top_zero htm], hw.slots⟩⟩ ?_
  · exact .cons rfl (.cons rfl (.cons rfl (.cons rfl (.nil _))))
  rintro ⟨k, v1, e1⟩ ⟨hk, hs⟩
  simp only at hk hs ⊢
  refine Wp.seq ?_
  refine Wp.seq (Wp.region ?_)
  refine OWp.evs 2 rfl ?_
  refine OWp.nil ?_
  refine Wp.cond rfl (fun h1 => ?_) (fun h1 => ?_)
  · have h1 := of_decide_eq_true h1
    have hk0 : 0 < k := by omega
    refine Wp.skip ?_
    refine Wp.seq ?_
    refine Wp.block ?_
    refine Wp.seq ?_
    refine Wp.seq (Wp.regionDraw [0, 1, 2, 3, 4, 5, 6, 7, 8] [] rfl (by decide +kernel) ?_)
    refine DWp.evs 3 rfl ?_
    refine DWp.g rfl rfl rfl rfl (Gives.shr (m := 6 * k) rfl rfl rfl (by rw [i64_id] <;> omega)) ?_
    refine DWp.evs 3 rfl ?_
    refine DWp.g rfl rfl rfl rfl (Gives.shr (m := 6 * k) rfl rfl rfl (by rw [i64_id] <;> omega)) ?_
    refine DWp.evs 1 rfl ?_
    refine DWp.nil ?_
    refine Wp.cond rfl (fun h2 => ?_) (fun h2 => ?_)
    · have h2 := of_decide_eq_true h2
      rw [shr_pow hk, shr_pow hk] at h2
      have h2 : was / 64 ^ k = to / 64 ^ k := by omega
      refine Wp.exit ?_
      refine Wp.region ?_
      refine OWp.evs 3 rfl ?_
      refine OWp.nil ?_
      refine ⟨(k - 1, v1, e1), by simp only; omega, ⟨by simp only; omega, ?_⟩, .cons rfl (.cons rfl (.cons rfl (.cons' rfl (int_eq (by rw [i64_id] <;> omega)) (.nil _)))), .refl _⟩
      simp only
      rcases hs with ⟨_, hs⟩ | hs
      · left; rw [show k - 1 + 1 = k by omega]; exact ⟨h2, hs⟩
      · exact .inr hs
    have h2 := of_decide_eq_false h2
    rw [shr_pow hk, shr_pow hk] at h2
    have h2 : was / 64 ^ k ≠ to / 64 ^ k := by omega
    obtain ⟨tab, hsl, hrel, hin, hlt⟩ := relay hwm htm hf hle hk hk0 h2 hs
    have hdk := dig_lt to k
    obtain ⟨j0, hj0⟩ : ∃ j0, j0 = 64 * k + dig to k := ⟨_, rfl⟩
    rw [← hj0] at hrel hin hlt
    have hj : j0 < 448 := by omega
    obtain ⟨la, lc, hv⟩ := (hsl.reads hj).form
    have hl := (hsl j0 hj).reads
    rw [hv] at hl
    obtain ⟨l, hll⟩ : ∃ l, l = tab j0 := ⟨_, rfl⟩
    rw [← hll] at hl hrel hin hv hlt
    have hlen0 := Nat.le_trans hlt hw.len
    refine Wp.skip ?_
    refine Wp.seq (Wp.regionDraw [0, 1, 2, 3, 5, 6, 7, 4, 8, 9] [4] rfl (by decide +kernel) ?_)
    refine DWp.evs 6 rfl ?_
    refine DWp.g rfl rfl rfl rfl (Gives.indexAddrArr (k) rfl rfl rfl rfl rfl rfl (by omega)) ?_
    refine DWp.stepGrow rfl rfl rfl (Step.call rfl rfl rfl rfl rfl rfl ((digitC rfl rfl htm hk ?_)))
    refine ⟨fun _ hy => hy, ?_⟩
    refine DWp.g rfl rfl rfl rfl (Gives.indexAddrArr ((dig to k)) rfl rfl rfl rfl rfl rfl (by omega)) ?_
    refine DWp.evs 1 rfl ?_
    refine DWp.nil ?_
    refine Wp.seq (Wp.region ?_)
    refine OWp.evs 2 rfl ?_
    refine OWp.load (.head _) rfl rfl rfl rfl ((wv_slot hj (by show 0 + 0 + k * 64 + dig to k * 1 = j0; omega)).trans (congrArg some hv)) ?_
    refine OWp.evs 1 rfl ?_
    refine OWp.nil ?_
    refine Wp.seq (Wp.region ?_)
    refine OWp.evs 2 rfl ?_
    refine OWp.step rfl (Step.storeAs 0 (wv (upd v1 j0 (.slice none 0 0)) to put many) rfl rfl rfl rfl rfl hB rfl (Unfz.zero _) rfl (by rw [wv_len]; show 0 + 0 + k * 64 + dig to k * 1 + 1 ≤ 451; omega) (wv_set_slot hj (by show 0 + 0 + k * 64 + dig to k * 1 = j0; omega)) rfl ?_)
    refine OWp.nil ?_
    refine Wp.permS ((open2 hj _ _).trans (.cons _ (List.perm_append_comm_assoc _ _ _))) ?_
    refine Wp.seq (Wp.region ?_)
    refine OWp.evs 3 rfl ?_
    refine OWp.nil ?_
    refine Wp.block ?_
    refine Wp.loopS (α := Nat × (Nat → Value) × (Nat → Ents)) (fun z => l.length - z.1) (fun z => [(0, pt p), (1, .int .i64 (to : Int)), (4, .int .i64 (was : Int)), (5, .int .i64 (k : Int)), (46, .slice la l.length lc), (47, .int .i64 (l.length : Int)), (48, .int .i64 (z.1 : Int))]) (fun z => wE p z.2.1 to put many :: (flatE z.2.2 448 ++ (e1 j0 ++ R))) (fun z => z.1 ≤ l.length ∧ SlotsOk B (fun j => upd tab j0 [] j ++ tabM to (l.take z.1) j) z.2.1 z.2.2) (0, upd v1 j0 (.slice none 0 0), upd e1 j0 []) ?_ (.refl _) ⟨Nat.zero_le _, ?_⟩ ?_
    · exact .cons rfl (.cons rfl (.cons rfl (.cons rfl (.cons rfl (.cons rfl (.cons rfl (.nil _)))))))
    · simp only [List.take_zero, tabM_nil, List.append_nil]; exact hsl.upd (Own.nil _ _ _)
    rintro ⟨i, v2, e2⟩ ⟨hi, hs2⟩
    simp only at hi hs2 ⊢
    refine Wp.seq (Wp.region ?_)
    refine OWp.evs 1 rfl ?_
    refine OWp.nil ?_
    refine Wp.seq ?_
    refine Wp.cond rfl (fun h3 => ?_) (fun h3 => ?_)
    · have h3 := of_decide_eq_true h3
      have hi2 : i < l.length := by omega
      obtain ⟨b1, o1, c1, L, e, fz, hvl, hm, hat⟩ := timer_at hl (by omega)
      cases hvl
      have hmem := hin l[i] (List.getElem_mem hi2)
      have hj2 := slotAt_lt to l[i].due
      have hlen2 : (upd tab j0 [] (slotAt to l[i].due) ++ tabM to (l.take i) (slotAt to l[i].due)).length ≤ 4096 := by
        have h4 := congrArg List.length (hrel (slotAt to l[i].due))
        have h5 := tabM_take_le to l i (slotAt to l[i].due)
        have h6 := tabM_len to M (slotAt to l[i].due)
        have h7 := hw.len
        rw [List.length_append] at h4 ⊢
        omega
      have hs3 := hs2 _ hj2
      simp only at hs3
      refine Wp.skip ?_
      refine Wp.seq ?_
      refine Wp.block ?_
      refine Wp.seq (Wp.region ?_)
      refine OWp.g rfl rfl (Gives.indexAddrSlice (i) rfl rfl rfl rfl rfl rfl (by omega)) ?_
      refine OWp.load (.tail _ (List.mem_append_right _ (List.mem_append_left _ hm))) rfl rfl rfl rfl (hat i hi2) ?_
      refine OWp.step rfl (Step.alloc rfl rfl rfl ?_); intro L9 hBL9 hLL9
      refine OWp.step rfl (Step.storeAs 0 (tc l[i]) rfl rfl rfl rfl rfl hBL9 rfl (Unfz.zero _) rfl (Nat.le_of_ble_eq_true rfl) rfl rfl ?_)
      refine OWp.nil ?_
      refine Wp.seq (Wp.region ?_)
      refine OWp.evs 2 rfl ?_
      refine OWp.load (.head _) rfl rfl rfl rfl rfl ?_
      refine OWp.step rfl (Step.call rfl rfl rfl rfl rfl rfl ((placeC rfl (.tail _ (.head _)) htm (far_most (hw.fit _ hmem).2) ?_)))
      refine OWp.evs 1 rfl ?_
      refine OWp.nil ?_
      refine Wp.permS (.cons _ (open2 hj2 _ _)) ?_
      refine Wp.regionDraw [0, 1, 2, 3, 4, 5, 6, 7, 8] [5, 6, 8] rfl (by decide +kernel) ?_
      refine DWp.evs 3 rfl ?_
      refine DWp.load (.tail _ (.head _)) rfl rfl rfl rfl rfl rfl (wv_slot hj2 rfl) ?_
      refine DWp.load (.head _) rfl rfl rfl rfl rfl rfl rfl ?_
      refine DWp.stepGrow rfl rfl rfl (Step.buildSlice rfl rfl rfl ?_); intro Lp1 hBLp1 hLLp1; refine ⟨fun _ hy => .tail _ hy, ?_⟩
      refine DWp.stepAll rfl rfl rfl rfl (Step.appendAt [_, _, _] rfl rfl rfl rfl rfl rfl (by decide) rfl rfl hs3 (Reads.row (k := 1) (sz := 3) (.head _) (Nat.le_of_ble_eq_true rfl)) rfl (by show (_ + 1) * 24 ≤ _; omega) (by unfold maxLen; omega) ?_); intro x e3 ho3 _
      refine DWp.drop0 (List.sublist_cons_self _ _) ?_
      obtain ⟨xa, xc, rfl⟩ := ho3.reads.form
      refine DWp.evs 1 rfl ?_
      refine DWp.stepAll rfl rfl rfl rfl (Step.storeAs 1 (wv (upd v2 (slotAt to l[i].due) (.slice xa ((upd tab j0 [] (slotAt to l[i].due) ++ tabM to (l.take i) (slotAt to l[i].due)).length + 1) xc)) to put many) rfl rfl rfl rfl rfl hB rfl (Unfz.zero _) rfl (by rw [wv_len]; show slotAt to l[i].due + 1 ≤ 451; omega) (wv_set_slot hj2 rfl) rfl ?_)
      refine DWp.nil ?_
      refine Wp.permS (.cons _ (shut2 hj2 _ _ _)) ?_
      refine Wp.drop (List.sublist_cons_self _ _) ?_
      refine Wp.region ?_
      refine OWp.evs 2 rfl ?_
      refine OWp.nil ?_
      refine ⟨(i + 1, _, upd e2 (slotAt to l[i].due) e3), by simp only; omega, ⟨by simp only; omega, ?_⟩, .cons rfl (.cons rfl (.cons rfl (.cons rfl (.cons rfl (.cons rfl (.cons' rfl (int_eq (i64_inc (by omega))) (.nil _))))))), .refl _⟩
      simp only
      rw [lay_next hi2]
      refine hs2.upd ?_
      rw [len_snoc, tcs_append, tcs_one]
      exact ho3
    have h3 := of_decide_eq_false h3
    obtain rfl : i = l.length := by omega
    refine Wp.exit ?_
    refine Wp.drop (S' := wE p v2 to put many :: (flatE e2 448 ++ R)) (.cons_cons _ ((List.Sublist.refl _).append (List.sublist_append_right _ _))) ?_
    refine Wp.region ?_
    refine OWp.evs 3 rfl ?_
    refine OWp.nil ?_
    refine ⟨(k - 1, v2, e2), by simp only; omega, ⟨by simp only; omega, .inr ?_⟩, .cons rfl (.cons rfl (.cons rfl (.cons' rfl (int_eq (by rw [i64_id] <;> omega)) (.nil _)))), .refl _⟩
    intro j hjj
    have h5 := hs2 j hjj
    simp only [List.take_length] at h5
    rw [hrel j] at h5
    exact h5
  have h1 := of_decide_eq_false h1
  obtain rfl : k = 0 := by omega
  refine Wp.exit ?_
  refine ⟨trivial, [], rfl, ?_⟩
  refine H v1 e1 ⟨?_, hto, fun t ht => ⟨hd t ht, (hw.fit t ht).2⟩, hw.nos, hw.low, hw.len⟩
  rcases hs with ⟨h2, hs⟩ | hs
  · intro j hjj
    have h5 := hs j hjj
    have h6 : tabM to M j = tabM was M j := by unfold tabM; exact moved_zero (by simpa using h2) _ _
    rw [h6]
    exact h5
  · exact hs
end
end Go.Proofs.E
