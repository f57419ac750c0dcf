/- Timers by the digits of their deadlines: plain laws. -/
namespace Go.Whl

structure T where
  due : Nat
  id : Int
  no : Nat
deriving DecidableEq

def dig (a k : Nat) : Nat := a / 64 ^ k % 64
def levF (now a : Nat) : Nat → Nat
  | 0 => 0
  | k + 1 => if dig a (k + 1) = dig now (k + 1) then levF now a k else k + 1
def lev (now a : Nat) : Nat := levF now a 6
def most : Nat := 64 ^ 7

theorem dig_lt (a k : Nat) : dig a k < 64 := Nat.mod_lt _ (by decide)
theorem div_succ (a k : Nat) : a / 64 ^ k = 64 * (a / 64 ^ (k + 1)) + dig a k := by
  unfold dig
  rw [Nat.pow_succ, ← Nat.div_div_eq_div_mul]
  omega
theorem levF_le (now a : Nat) : ∀ k, levF now a k ≤ k
  | 0 => Nat.le_refl _
  | k + 1 => by
    unfold levF
    split
    · exact Nat.le_succ_of_le (levF_le now a k)
    · exact Nat.le_refl _
theorem lev_le (now a : Nat) : lev now a ≤ 6 := levF_le _ _ 6
theorem levF_above {now a : Nat} : ∀ {k j : Nat}, levF now a k < j → j ≤ k → dig a j = dig now j
  | 0, j, h1, h2 => by omega
  | k + 1, j, h1, h2 => by
    unfold levF at h1
    split at h1
    · rename_i h
      by_cases e : j = k + 1
      · subst e; exact h
      · exact levF_above h1 (by omega)
    · omega
theorem levF_at {now a : Nat} : ∀ {k : Nat}, 0 < levF now a k → dig a (levF now a k) ≠ dig now (levF now a k)
  | 0, h => by simp [levF] at h
  | k + 1, h => by
    by_cases e : dig a (k + 1) = dig now (k + 1)
    · have : levF now a (k + 1) = levF now a k := by simp [levF, e]
      rw [this] at h ⊢
      exact levF_at h
    · have : levF now a (k + 1) = k + 1 := by simp [levF, e]
      rw [this]; exact e
theorem top_zero {a : Nat} (h : a < most) : a / 64 ^ 7 = 0 := Nat.div_eq_of_lt h
/-- Above its level a deadline is the time. -/
theorem div_above {now a : Nat} (hn : now < most) (ha : a < most) : ∀ {j : Nat}, lev now a < j → j ≤ 7 → a / 64 ^ j = now / 64 ^ j := by
  suffices h : ∀ d j, j + d = 7 → lev now a < j → a / 64 ^ j = now / 64 ^ j by
    intro j h1 h2; exact h (7 - j) j (by omega) h1
  intro d
  induction d with
  | zero => intro j hj _; obtain rfl : j = 7 := by omega
            rw [top_zero hn, top_zero ha]
  | succ d ih =>
    intro j hj hl
    rw [div_succ a j, div_succ now j, ih (j + 1) (by omega) (by omega), levF_above (k := 6) hl (by omega)]
theorem lt_of_div {a b k : Nat} (h : a / 64 ^ k < b / 64 ^ k) : a < b := by
  rcases Nat.lt_or_ge a b with h1 | h1
  · exact h1
  · have := Nat.div_le_div_right (c := 64 ^ k) h1; omega
theorem lev_zero_dig {now a : Nat} (hn : now < most) (ha : a < most) (h : lev now a = 0) : a / 64 = now / 64 := by
  have := div_above hn ha (j := 1) (by omega) (by omega)
  simpa using this
/-- A deadline that is not over has no lesser digit on its level. -/
theorem dig_ge {now a : Nat} (hn : now < most) (ha : a < most) (h : now ≤ a) : dig now (lev now a) ≤ dig a (lev now a) := by
  have h1 := div_above hn ha (j := lev now a + 1) (by omega) (by have := lev_le now a; omega)
  have h2 := Nat.div_le_div_right (c := 64 ^ lev now a) h
  rw [div_succ a, div_succ now, h1] at h2
  omega
theorem dig_gt {now a : Nat} (hn : now < most) (ha : a < most) (h : now ≤ a) (hl : 0 < lev now a) : dig now (lev now a) < dig a (lev now a) := by
  have := dig_ge hn ha h
  have h2 : dig a (lev now a) ≠ dig now (lev now a) := levF_at (k := 6) hl
  omega
/-- What is on a lower level is due earlier. -/
theorem lt_of_lev {now a b : Nat} (hn : now < most) (ha : a < most) (hb : b < most) (hnb : now ≤ b) (h : lev now a < lev now b) : a < b := by
  refine lt_of_div (k := lev now b) ?_
  have h1 := div_above hn ha (j := lev now b) h (by have := lev_le now b; omega)
  have h2 := div_above hn hb (j := lev now b + 1) (by omega) (by have := lev_le now b; omega)
  have h3 := dig_gt hn hb hnb (by omega)
  rw [h1, div_succ b, div_succ now, h2]
  omega
theorem lt_of_dig {now a b : Nat} (hn : now < most) (ha : a < most) (hb : b < most) (h : lev now a = lev now b) (hd : dig a (lev now a) < dig b (lev now a)) : a < b := by
  refine lt_of_div (k := lev now a) ?_
  have h1 := div_above hn ha (j := lev now a + 1) (by omega) (by have := lev_le now a; omega)
  have h2 := div_above hn hb (j := lev now a + 1) (by omega) (by have := lev_le now b; omega)
  rw [div_succ a, div_succ b, h1, h2]
  omega

/-- The timers of a slot, as they stand by their numbers. -/
def slot (now : Nat) (M : List T) (k i : Nat) : List T := M.filter fun t => lev now t.due == k && dig t.due k == i
theorem mem_slot {now : Nat} {M : List T} {k i : Nat} {t : T} : t ∈ slot now M k i ↔ t ∈ M ∧ lev now t.due = k ∧ dig t.due k = i := by simp [slot]
theorem slot_append (now : Nat) (M N : List T) (k i : Nat) : slot now (M ++ N) k i = slot now M k i ++ slot now N k i := by simp [slot]
theorem slot_one (now : Nat) (t : T) (k i : Nat) : slot now [t] k i = if lev now t.due = k ∧ dig t.due k = i then [t] else [] := by
  unfold slot
  simp only [List.filter_cons, List.filter_nil, Bool.and_eq_true, beq_iff_eq]

/-- All timers may be: their deadlines are not over, and below the most. -/
def Fit (now : Nat) (M : List T) : Prop := ∀ t ∈ M, now ≤ t.due ∧ t.due < most
/-- The first slot, level by level, that is not empty holds the earliest. -/
theorem first_least {now : Nat} {M : List T} (hn : now < most) (hf : Fit now M) {k i : Nat} (h1 : ∀ k' i', k' < k → dig now k' ≤ i' → slot now M k' i' = [])
    (h2 : ∀ i', dig now k ≤ i' → i' < i → slot now M k i' = []) {a b : T} (ha : a ∈ slot now M k i) (hb : b ∈ M) (hle : b.due < a.due) : b ∈ slot now M k i := by
  obtain ⟨ham, hal, had⟩ := mem_slot.1 ha
  obtain ⟨fa1, fa2⟩ := hf a ham
  obtain ⟨fb1, fb2⟩ := hf b hb
  rcases Nat.lt_trichotomy (lev now b.due) k with h | h | h
  · have := h1 _ (dig b.due (lev now b.due)) h (dig_ge hn fb2 fb1)
    have hm : b ∈ slot now M (lev now b.due) (dig b.due (lev now b.due)) := mem_slot.2 ⟨hb, rfl, rfl⟩
    rw [this] at hm; cases hm
  · rcases Nat.lt_trichotomy (dig b.due k) i with h' | h' | h'
    · have h3 := dig_ge hn fb2 fb1
      rw [h] at h3
      have := h2 _ h3 h'
      have hm : b ∈ slot now M k (dig b.due k) := mem_slot.2 ⟨hb, h, rfl⟩
      rw [this] at hm; cases hm
    · exact mem_slot.2 ⟨hb, h, h'⟩
    · have := lt_of_dig hn fa2 fb2 (hal.trans h.symm) (by rw [hal, had]; exact h')
      omega
  · have := lt_of_lev hn fa2 fb2 fb1 (by rw [hal]; exact h)
    omega
theorem some_slot {now : Nat} {M : List T} (hn : now < most) (hf : Fit now M) (hM : M ≠ []) : ∃ k i, k < 7 ∧ i < 64 ∧ dig now k ≤ i ∧ slot now M k i ≠ [] := by
  obtain ⟨t, l, rfl⟩ := List.exists_cons_of_ne_nil hM
  obtain ⟨h1, h2⟩ := hf t (by simp)
  refine ⟨lev now t.due, dig t.due (lev now t.due), by have := lev_le now t.due; omega, dig_lt _ _, dig_ge hn h2 h1, ?_⟩
  have : t ∈ slot now (t :: l) (lev now t.due) (dig t.due (lev now t.due)) := mem_slot.2 ⟨by simp, rfl, rfl⟩
  exact List.ne_nil_of_mem this

/-! The time moves on. -/
theorem lev_eq_of {now now' a : Nat} {K : Nat} (h : ∀ j, K < j → j ≤ 6 → dig now j = dig now' j) (hK : K < lev now a ∨ K < lev now' a) : lev now a = lev now' a := by
  suffices hh : ∀ k, (∀ j, K < j → j ≤ k → dig now j = dig now' j) → (K < levF now a k ∨ K < levF now' a k) → levF now a k = levF now' a k from hh 6 h hK
  intro k
  induction k with
  | zero => intro _ _; rfl
  | succ k ih =>
    intro hj hk
    have hle : K < k + 1 := by
      have := levF_le now a (k + 1); have := levF_le now' a (k + 1); omega
    have e := hj (k + 1) hle (Nat.le_refl _)
    unfold levF at hk ⊢
    rw [e] at hk ⊢
    split
    · rename_i h1
      rw [if_pos h1, if_pos h1] at hk
      exact ih (fun j h1 h2 => hj j h1 (by omega)) hk
    · rfl
/-- The highest digit in which two times are unlike. -/
theorem highest {was to : Nat} (hw : was < most) (ht : to < most) (hle : was ≤ to) {k : Nat} (hk : was / 64 ^ k ≠ to / 64 ^ k) (hk7 : k < 7) :
    ∃ K, k ≤ K ∧ K < 7 ∧ was / 64 ^ (K + 1) = to / 64 ^ (K + 1) ∧ dig was K < dig to K := by
  suffices h : ∀ d k, k + d = 7 → was / 64 ^ k ≠ to / 64 ^ k → ∃ K, k ≤ K ∧ K < 7 ∧ was / 64 ^ (K + 1) = to / 64 ^ (K + 1) ∧ dig was K < dig to K from h (7 - k) k (by omega) hk
  intro d
  induction d with
  | zero => intro k e h; obtain rfl : k = 7 := by omega
            rw [top_zero hw, top_zero ht] at h; exact absurd rfl h
  | succ d ih =>
    intro k e h
    by_cases h2 : was / 64 ^ (k + 1) = to / 64 ^ (k + 1)
    · refine ⟨k, Nat.le_refl _, by omega, h2, ?_⟩
      have := Nat.div_le_div_right (c := 64 ^ k) hle
      rw [div_succ was k, div_succ to k, h2] at h this
      omega
    · obtain ⟨K, h3, h4⟩ := ih (k + 1) (by omega) h2
      exact ⟨K, by omega, h4⟩
/-- Nothing that is not over stands below the highest digit that turns. -/
theorem none_below {was to a K : Nat} (hw : was < most) (ha : a < most) (hK : K < 7) (h1 : was / 64 ^ (K + 1) = to / 64 ^ (K + 1)) (h2 : dig was K < dig to K) (hta : to ≤ a) : K ≤ lev was a := by
  rcases Nat.lt_or_ge (lev was a) K with h | h
  · exfalso
    have h3 := div_above hw ha (j := K) h (by omega)
    have h4 := Nat.div_le_div_right (c := 64 ^ K) hta
    rw [h3, div_succ was, div_succ to, h1] at h4
    omega
  · exact h
theorem digs_eq {was to K : Nat} (h1 : was / 64 ^ (K + 1) = to / 64 ^ (K + 1)) {j : Nat} (hj : K < j) : dig was j = dig to j := by
  unfold dig
  obtain ⟨d, rfl⟩ : ∃ d, j = K + 1 + d := ⟨j - (K + 1), by omega⟩
  rw [Nat.pow_add, ← Nat.div_div_eq_div_mul, ← Nat.div_div_eq_div_mul, h1]

/-- The slot that is laid out anew, and all others. -/
theorem moved {was to : Nat} {M : List T} (hw : was < most) (_ht : to < most) (hf : Fit to M) {K : Nat} (hK : K < 7) (h1 : was / 64 ^ (K + 1) = to / 64 ^ (K + 1)) (h2 : dig was K < dig to K) :
    (∀ k i, (k < K → slot was M k i = []) ∧ (slot to M k i = if k = K ∧ i = dig to K ∧ 0 < K then [] else slot was M k i ++ slot to (slot was M K (dig to K)) k i) ∨ K = 0) := by
  intro k i
  by_cases hK0 : K = 0
  · exact .inr hK0
  refine .inl ⟨?_, ?_⟩
  · intro hk
    apply List.eq_nil_iff_forall_not_mem.2
    intro t htm
    obtain ⟨hm, hl, _⟩ := mem_slot.1 htm
    have := none_below hw (hf t hm).2 hK h1 h2 (hf t hm).1
    omega
  · have dige : ∀ j, K < j → j ≤ 6 → dig was j = dig to j := fun j h _ => digs_eq h1 h
    -- how the levels turn
    have up : ∀ t ∈ M, K < lev was t.due → lev to t.due = lev was t.due := fun t _ h => (lev_eq_of dige (.inl h)).symm
    have at1 : ∀ t ∈ M, lev was t.due = K → dig t.due K ≠ dig to K → lev to t.due = K := by
      intro t _ h hd
      have h3 : lev to t.due ≤ K := by
        rcases Nat.lt_or_ge K (lev to t.due) with h4 | h4
        · have := lev_eq_of (now := was) (now' := to) (a := t.due) dige (.inr h4); omega
        · exact h4
      rcases Nat.lt_or_ge (lev to t.due) K with h4 | h4
      · exact absurd (levF_above (k := 6) h4 (by omega)) hd
      · omega
    have at2 : ∀ t ∈ M, lev was t.due = K → dig t.due K = dig to K → lev to t.due < K := by
      intro t _ h hd
      rcases Nat.lt_or_ge (lev to t.due) K with h4 | h4
      · exact h4
      · rcases Nat.eq_or_lt_of_le h4 with h5 | h5
        · have := levF_at (now := to) (a := t.due) (k := 6) (by show 0 < lev to t.due; omega)
          rw [show levF to t.due 6 = K from h5.symm] at this
          exact absurd hd this
        · have := lev_eq_of (now := was) (now' := to) (a := t.due) dige (.inr h5); omega
    have low : ∀ t ∈ M, K ≤ lev was t.due := fun t hm => none_below hw (hf t hm).2 hK h1 h2 (hf t hm).1
    split
    · rename_i h
      obtain ⟨rfl, rfl, _⟩ := h
      apply List.eq_nil_iff_forall_not_mem.2
      intro t htm
      obtain ⟨hm, hl, hd⟩ := mem_slot.1 htm
      have h3 := levF_at (now := to) (a := t.due) (k := 6) (by show 0 < lev to t.due; omega)
      rw [show levF to t.due 6 = k from hl] at h3
      exact h3 hd
    · rename_i hne
      by_cases hk : k < K
      · -- a lower slot: all of it comes out of the one
        have e1 : slot was M k i = [] := by
          apply List.eq_nil_iff_forall_not_mem.2
          intro t htm
          obtain ⟨hm, hl, _⟩ := mem_slot.1 htm
          have := low t hm; omega
        rw [e1, List.nil_append]
        unfold slot
        rw [List.filter_filter]
        apply List.filter_congr
        intro t hm
        have hl := low t hm
        by_cases ha : lev to t.due = k ∧ dig t.due k = i
        · have h3 : lev was t.due = K := by
            rcases Nat.eq_or_lt_of_le hl with h | h
            · exact h.symm
            · have := up t hm h; omega
          have h4 : dig t.due K = dig to K := by
            by_cases h5 : dig t.due K = dig to K
            · exact h5
            · have := at1 t hm h3 h5; omega
          simp [ha.1, ha.2, h3, h4]
        · have : (lev to t.due == k && dig t.due k == i) = false := by
            rw [Bool.eq_false_iff]; intro h; exact ha (by simpa using h)
          simp [this]
      · -- a slot that stays
        have e2 : slot to (slot was M K (dig to K)) k i = [] := by
          apply List.eq_nil_iff_forall_not_mem.2
          intro t htm
          obtain ⟨hm1, hl1, _⟩ := mem_slot.1 htm
          obtain ⟨hm, hl, hd⟩ := mem_slot.1 hm1
          have := at2 t hm hl hd; omega
        rw [e2, List.append_nil]
        unfold slot
        apply List.filter_congr
        intro t hm
        have hl := low t hm
        rw [Bool.eq_iff_iff]
        simp only [Bool.and_eq_true, beq_iff_eq]
        constructor
        · rintro ⟨h3, h4⟩
          refine ⟨?_, h4⟩
          rcases Nat.eq_or_lt_of_le hl with h | h
          · by_cases h5 : dig t.due K = dig to K
            · have := at2 t hm h.symm h5; omega
            · have := at1 t hm h.symm h5; omega
          · rw [← up t hm h]; exact h3
        · rintro ⟨h3, h4⟩
          refine ⟨?_, h4⟩
          rcases Nat.eq_or_lt_of_le hl with h | h
          · have h5 : dig t.due K ≠ dig to K := by
              intro h5
              have hkk : k = K := by omega
              subst hkk
              exact hne ⟨rfl, h4.symm.trans h5, by omega⟩
            have := at1 t hm h.symm h5; omega
          · rw [up t hm h]; exact h3
theorem moved_zero {was to : Nat} {M : List T} (h1 : was / 64 = to / 64) (k i : Nat) : slot to M k i = slot was M k i := by
  have dige : ∀ j, 0 < j → j ≤ 6 → dig was j = dig to j := fun j h _ => digs_eq (K := 0) (by simpa using h1) h
  have lev_same : ∀ a, lev to a = lev was a := by
    intro a
    by_cases h : 0 < lev to a ∨ 0 < lev was a
    · exact lev_eq_of (K := 0) (fun j h1 h2 => (dige j h1 h2).symm) h
    · omega
  unfold slot
  apply List.filter_congr
  intro t _
  rw [lev_same]
end Go.Whl
