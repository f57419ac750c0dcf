/- What functions of the given program do, one after the other, told by that layer. -/
import Derived.Test.YtdgbbfbgakeaaaaLgMore
namespace Go.Proofs.C

/-- The table of a mean. -/
def tab (mean : Nat) : Nat → Nat
  | 0 => 4294967296
  | i + 1 => tab mean i * mean / (mean + 1)
/-- How many of the table's numbers behind the first are above a word. -/
def dl (mean u : Nat) : Nat → Nat
  | 0 => 0
  | m + 1 => dl mean u m + (if u < tab mean (m + 1) then 1 else 0)

theorem tab_step (m i : Nat) : tab m (i + 1) ≤ tab m i := by
  show tab m i * m / (m + 1) ≤ tab m i
  have : tab m i * m ≤ tab m i * (m + 1) := Nat.mul_le_mul_left _ (by omega)
  exact Nat.div_le_of_le_mul (by rw [Nat.mul_comm]; rw [Nat.mul_comm] at this; rw [Nat.mul_comm (m + 1)]; omega)
theorem tab_anti (m : Nat) {i j : Nat} (h : i ≤ j) : tab m j ≤ tab m i := by
  induction h with
  | refl => exact Nat.le_refl _
  | step _ ih => exact Nat.le_trans (tab_step m _) ih
theorem tab_le (m i : Nat) : tab m i ≤ 4294967296 := tab_anti m (Nat.zero_le i)
theorem tab_mean (m : Nat) : ∀ i, tab m i ≤ tab (m + 1) i
  | 0 => Nat.le_refl _
  | i + 1 => by
    have ih := tab_mean m i
    show tab m i * m / (m + 1) ≤ tab (m + 1) i * (m + 1) / (m + 1 + 1)
    generalize tab m i = x at *
    generalize tab (m + 1) i = y at *
    rw [Nat.le_div_iff_mul_le (by omega)]
    have h1 : x * m / (m + 1) * (m + 1) ≤ x * m := Nat.div_mul_le_self _ _
    have h2 : x * m / (m + 1) ≤ x := by
      exact Nat.div_le_of_le_mul (by rw [Nat.mul_comm (m + 1)]; exact Nat.mul_le_mul_left _ (by omega))
    have h3 : x * m / (m + 1) * (m + 1 + 1) = x * m / (m + 1) * (m + 1) + x * m / (m + 1) := by rw [Nat.mul_succ]
    have h4 : x * (m + 1) = x * m + x := by rw [Nat.mul_succ]
    have h5 : x * (m + 1) ≤ y * (m + 1) := Nat.mul_le_mul_right _ ih
    omega

theorem dl_le (m u : Nat) : ∀ k, dl m u k ≤ k
  | 0 => Nat.le_refl _
  | k + 1 => by have := dl_le m u k; simp only [dl]; split <;> omega
theorem dl_all {m u : Nat} : ∀ {k : Nat}, (∀ i, i < k → u < tab m (i + 1)) → dl m u k = k
  | 0, _ => rfl
  | k + 1, h => by
    have := dl_all (m := m) (u := u) (k := k) fun i hi => h i (by omega)
    simp only [dl, this, if_pos (h k (by omega))]
theorem dl_cut {m u j : Nat} : ∀ {k : Nat}, j ≤ k → (∀ i, i < j → u < tab m (i + 1)) → (∀ i, j ≤ i → i < k → tab m (i + 1) ≤ u) → dl m u k = j
  | 0, hj, _, _ => by simp only [dl]; omega
  | k + 1, hj, h1, h2 => by
    by_cases e : j = k + 1
    · subst e; exact dl_all h1
    · have := dl_cut (m := m) (u := u) (j := j) (k := k) (by omega) h1 fun i hi hk => h2 i hi (by omega)
      have h3 := h2 k (by omega) (by omega)
      simp only [dl, this, if_neg (by omega : ¬ u < tab m (k + 1))]; omega
theorem dl_word {m u v : Nat} (h : u ≤ v) : ∀ k, dl m v k ≤ dl m u k
  | 0 => Nat.le_refl _
  | k + 1 => by
    have := dl_word (m := m) h k
    simp only [dl]
    split <;> split <;> omega
theorem dl_most (m u k : Nat) : dl m u k ≤ dl m u (k + 1) := by simp only [dl]; omega
theorem dl_mean (m u : Nat) : ∀ k, dl m u k ≤ dl (m + 1) u k
  | 0 => Nat.le_refl _
  | k + 1 => by
    have := dl_mean m u k
    have := tab_mean m (k + 1)
    simp only [dl]
    split <;> split <;> omega

def tabs (mean : Nat) (k : Nat) : List Nat := (List.range k).map (tab mean)
theorem tabs_len (m k : Nat) : (tabs m k).length = k := by simp [tabs]
theorem tabs_get {m k i : Nat} (h : i < k) : (tabs m k)[i]? = some (tab m i) := by simp [tabs, h]
theorem tabs_snoc (m k : Nat) : tabs m (k + 1) = tabs m k ++ [tab m k] := by simp [tabs, List.range_succ]
end Go.Proofs.C
