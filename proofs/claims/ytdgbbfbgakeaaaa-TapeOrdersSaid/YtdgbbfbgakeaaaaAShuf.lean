/- What functions of the given program do, one after the other, told by that layer. -/
import Derived.Test.YtdgbbfbgakeaaaaATape4
namespace Go.Proofs.C
open Go.Lg

theorem swp_perm {l : List Nat} {i j : Nat} (hi : i < l.length) (hj : j < l.length) : (swp l i j).Perm l := by
  have h := Array.swap_perm (xs := l.toArray) (i := i) (j := j) (by simpa using hi) (by simpa using hj)
  have e : (l.toArray.swap i j (by simpa using hi) (by simpa using hj)).toList = swp l i j := by
    simp [Array.swap, swp, hi, hj]
  have := h.toList
  rw [e] at this
  exact this

theorem shuf_perm (s : List UInt8) : ∀ (i k : Nat) (l : List Nat), i ≤ l.length → (shuf s i k l).Perm l
  | 0, _, l, _ => .refl l
  | 1, _, l, _ => .refl l
  | i + 2, k, l, h => by
    rw [shuf]
    have hj : word s k * (i + 2) / 4294967296 < i + 2 := by
      have := be4_lt (s.drop k)
      have h1 : word s k * (i + 2) < 4294967296 * (i + 2) := Nat.mul_lt_mul_of_pos_right this (by omega)
      exact Nat.div_lt_of_lt_mul h1
    refine (shuf_perm s (i + 1) (k + 4) _ (by rw [swp_length]; omega)).trans (swp_perm (by omega) (by omega))

theorem swp_self {l : List Nat} {i : Nat} (hi : i < l.length) : swp l i i = l := by
  simp [swp, hi]

theorem word_ff {s : List UInt8} {k : Nat} (hf : ∀ j, k ≤ j → j < k + 4 → s[j]? = some 255) : word s k = 4294967295 := by
  have e : s.drop k = 255 :: 255 :: 255 :: 255 :: s.drop (k + 4) := by
    have h0 := hf k (by omega) (by omega)
    have h1 := hf (k + 1) (by omega) (by omega)
    have h2 := hf (k + 2) (by omega) (by omega)
    have h3 := hf (k + 3) (by omega) (by omega)
    have key : ∀ j, s[j]? = some 255 → s.drop j = 255 :: s.drop (j + 1) := by
      intro j hj
      obtain ⟨hl, hv⟩ := List.getElem?_eq_some_iff.1 hj
      rw [List.drop_eq_getElem_cons hl, hv]
    rw [key k h0, key (k + 1) h1, key (k + 2) h2, key (k + 3) h3]
  rw [word, e]
  rfl

theorem shuf_ff {s : List UInt8} : ∀ (i k : Nat) (l : List Nat), i ≤ l.length → i ≤ 64 → k + 4 * (i - 1) ≤ s.length → (∀ j, k ≤ j → j < k + 4 * (i - 1) → s[j]? = some 255) → shuf s i k l = l
  | 0, _, _, _, _, _, _ => rfl
  | 1, _, _, _, _, _, _ => rfl
  | i + 2, k, l, h, h64, hl, hf => by
    rw [shuf, word_ff fun j h1 h2 => hf j h1 (by omega)]
    have e : 4294967295 * (i + 2) / 4294967296 = i + 1 := by omega
    rw [e, swp_self (by omega)]
    exact shuf_ff (i + 1) (k + 4) l (by omega) (by omega) (by omega) fun j h1 h2 => hf j (by omega) (by omega)
end Go.Proofs.C
