/- What functions of the given program do, one after the other, told by that layer. -/
import Derived.Test.YtkbagleekpgdeaaGreatDoorEM1x7081
namespace Go.Nm
open Go.Cv
set_option maxRecDepth 10000
/-- A digit, where something is added to one digit without carry. -/
theorem dig_add {β c k m y : Nat} (hβ : 1 < β) (h : m + β ^ c * y < β ^ (c + 1)) : (m + β ^ c * y) / β ^ k % β = if k = c then m / β ^ c % β + y else m / β ^ k % β := by
  have hp : ∀ n, 0 < β ^ n := fun n => Nat.pow_pos (by omega)
  rcases Nat.lt_trichotomy k c with hk | hk | hk
  · rw [if_neg (by omega)]
    obtain ⟨d, rfl⟩ : ∃ d, c = k + (d + 1) := ⟨c - k - 1, by omega⟩
    rw [Nat.pow_add, Nat.mul_assoc, Nat.add_mul_div_left _ _ (hp k), Nat.pow_succ, Nat.mul_comm (β ^ d) β, Nat.mul_assoc, Nat.add_mul_mod_self_left]
  · subst hk
    rw [if_pos rfl, Nat.add_mul_div_left _ _ (hp k)]
    have h1 : m / β ^ k + y < β := by
      rw [← Nat.add_mul_div_left _ _ (hp k)]
      exact Nat.div_lt_of_lt_mul (by rwa [Nat.pow_succ] at h)
    rw [Nat.mod_eq_of_lt h1, Nat.mod_eq_of_lt (by omega)]
  · rw [if_neg (by omega)]
    have h2 : β ^ (c + 1) ≤ β ^ k := Nat.pow_le_pow_right (by omega) hk
    rw [Nat.div_eq_of_lt (by omega), Nat.div_eq_of_lt (by omega)]
/-- One bit more. -/
theorem mod_bit (n i : Nat) : n % 2 ^ (i + 1) = n % 2 ^ i + 2 ^ i * (n / 2 ^ i % 2) := by
  rw [Nat.pow_succ, Nat.mod_mul]
theorem dig_bit {w c r k n : Nat} (hw : 0 < w) (hr : r < w) : n % 2 ^ (w * c + r + 1) / (2 ^ w) ^ k % 2 ^ w = if k = c then n % 2 ^ (w * c + r) / (2 ^ w) ^ c % 2 ^ w + 2 ^ r * (n / 2 ^ (w * c + r) % 2) else n % 2 ^ (w * c + r) / (2 ^ w) ^ k % 2 ^ w := by
  have e : n % 2 ^ (w * c + r + 1) = n % 2 ^ (w * c + r) + (2 ^ w) ^ c * (2 ^ r * (n / 2 ^ (w * c + r) % 2)) := by
    rw [mod_bit, ← Nat.pow_mul, ← Nat.mul_assoc, ← Nat.pow_add]
  have hlt : n % 2 ^ (w * c + r + 1) < (2 ^ w) ^ (c + 1) := by
    refine Nat.lt_of_lt_of_le (Nat.mod_lt _ (Nat.pow_pos (by decide))) ?_
    rw [← Nat.pow_mul]
    exact Nat.pow_le_pow_right (by decide) (by rw [Nat.mul_add]; omega)
  rw [e] at hlt ⊢
  exact dig_add (Nat.one_lt_two_pow (by omega)) hlt
theorem dg_nat {n k : Nat} (h : n < (2 ^ 26) ^ 10) (hk : k < 10) : (dg (n : Int)).getD k 0 = ((n / (2 ^ 26) ^ k % 2 ^ 26 : Nat) : Int) := by
  have e : ((n / (2 ^ 26) ^ k : Nat) : Int) = (n : Int) / 67108864 ^ k := by
    rw [Int.natCast_ediv, Int.natCast_pow]; rfl
  by_cases h9 : k = 9
  · subst h9
    rw [dg_top, ← e]
    rw [Nat.mod_eq_of_lt (Nat.div_lt_of_lt_mul (by rw [← Nat.pow_succ]; exact h))]
  · rw [dg_get (by omega), ← e]
    rfl
theorem ext10 {a b : List Int} (ha : a.length = 10) (hb : b.length = 10) (h : ∀ k, k < 10 → a.getD k 0 = b.getD k 0) : a = b := by
  apply List.ext_getElem (by omega)
  intro i h1 h2
  have := h i (by omega)
  rwa [List.getD_eq_getElem?_getD, List.getD_eq_getElem?_getD, List.getElem?_eq_getElem h1, List.getElem?_eq_getElem h2] at this
theorem dg_bit {n i : Nat} (hi : i < 256) : (dg ((n % 2 ^ i : Nat) : Int)).set (i / 26) ((dg ((n % 2 ^ i : Nat) : Int)).getD (i / 26) 0 + ((2 ^ (i % 26) * (n / 2 ^ i % 2) : Nat) : Int)) = dg ((n % 2 ^ (i + 1) : Nat) : Int) := by
  have hl : ∀ j, j ≤ 256 → n % 2 ^ j < (2 ^ 26) ^ 10 := fun j hj => Nat.lt_of_lt_of_le (Nat.mod_lt _ (Nat.pow_pos (by decide))) (Nat.le_trans (Nat.pow_le_pow_right (by decide) hj) (show 2 ^ 256 ≤ (2 ^ 26) ^ 10 by decide +kernel))
  apply ext10 (by rw [List.length_set, dg_len]) (dg_len _)
  intro k hk
  have e : i = 26 * (i / 26) + i % 26 := (Nat.div_add_mod i 26).symm
  have hb := dig_bit (w := 26) (c := i / 26) (r := i % 26) (k := k) (n := n) (by decide) (Nat.mod_lt _ (by decide))
  rw [← e] at hb
  rw [dg_nat (hl (i + 1) (by omega)) hk, hb, List.getD_eq_getElem?_getD, List.getElem?_set]
  by_cases hkc : i / 26 = k
  · rw [if_pos hkc, if_pos (by rw [dg_len]; omega), if_pos hkc.symm, hkc, dg_nat (hl i (by omega)) hk]
    simp
  · rw [if_neg hkc, if_neg (Ne.symm hkc), ← List.getD_eq_getElem?_getD, dg_nat (hl i (by omega)) hk]
theorem le32_get (n : Nat) {k : Nat} (h : k < 32) : (le32 n)[k]? = some (UInt8.ofNat (n / 2 ^ (8 * k))) := by
  simp [le32, h]
theorem le32_bit {n i : Nat} : (le32 (n % 2 ^ i)).set (i / 8) (UInt8.ofNat (((le32 (n % 2 ^ i)).getD (i / 8) 0).toNat + 2 ^ (i % 8) * (n / 2 ^ i % 2))) = le32 (n % 2 ^ (i + 1)) := by
  have hlen : ∀ m, (le32 m).length = 32 := fun m => by simp [le32]
  apply List.ext_getElem?
  intro k
  by_cases hk : k < 32
  · have e : i = 8 * (i / 8) + i % 8 := (Nat.div_add_mod i 8).symm
    have hb := dig_bit (w := 8) (c := i / 8) (r := i % 8) (k := k) (n := n) (by decide) (Nat.mod_lt _ (by decide))
    rw [← e] at hb
    have u : ∀ m : Nat, UInt8.ofNat (m / 2 ^ (8 * k)) = UInt8.ofNat (m / (2 ^ 8) ^ k % 2 ^ 8) := fun m => by
      rw [← Nat.pow_mul]
      apply UInt8.toNat_inj.1
      rw [UInt8.toNat_ofNat', UInt8.toNat_ofNat']
      simp
    rw [le32_get _ hk, u, hb, List.getElem?_set]
    by_cases hkc : i / 8 = k
    · rw [if_pos hkc, if_pos (by rw [hlen]; omega), if_pos hkc.symm, hkc, List.getD_eq_getElem?_getD, le32_get _ hk, u]
      simp only [Option.getD_some, UInt8.toNat_ofNat']
      congr 3
      simp
    · rw [if_neg hkc, if_neg (Ne.symm hkc), le32_get _ hk, u]
  · rw [List.getElem?_eq_none (by rw [List.length_set, hlen]; omega), List.getElem?_eq_none (by rw [hlen]; omega)]
end Go.Nm
