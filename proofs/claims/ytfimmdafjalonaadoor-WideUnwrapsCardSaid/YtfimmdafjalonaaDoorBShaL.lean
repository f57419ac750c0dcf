/- What functions of the given program do, one after the other, told by that layer. -/
import Derived.Test.YtfimmdafjalonaaDoorBSha
import Derived.Test.YtfimmdafjalonaaDoorLgBits
/- Words of SHA-256 in other forms. -/
namespace Go.Sha
open Go.Lg

theorem rr_lt {x n : Nat} (hx : x < 4294967296) (hn : n ≤ 32) : rr x n < 4294967296 := by
  unfold rr
  have hm : n + (32 - n) = 32 := by omega
  have h1 : x / 2 ^ n < 2 ^ (32 - n) := by
    rw [Nat.div_lt_iff_lt_mul (Nat.two_pow_pos n), ← Nat.pow_add, Nat.add_comm, hm]; exact hx
  have hmod : x * 2 ^ (32 - n) % 4294967296 % 2 ^ (32 - n) = 0 := by
    have : (4294967296 : Nat) = 2 ^ (32 - n) * 2 ^ n := by rw [← Nat.pow_add, Nat.add_comm, hm]
    rw [this, Nat.mod_mul_right_mod, Nat.mul_mod_left]
  have h2 := Nat.mod_lt (x * 2 ^ (32 - n)) (show 4294967296 > 0 by decide)
  generalize x * 2 ^ (32 - n) % 4294967296 = y at *
  have : (4294967296 : Nat) = 2 ^ (32 - n) * 2 ^ n := by rw [← Nat.pow_add, Nat.add_comm, hm]
  obtain ⟨q, rfl⟩ := Nat.dvd_of_mod_eq_zero hmod
  have hq : q < 2 ^ n := by
    rw [this] at h2
    exact Nat.lt_of_mul_lt_mul_left h2
  have : 2 ^ (32 - n) * q + 2 ^ (32 - n) ≤ 2 ^ (32 - n) * 2 ^ n := by
    rw [← Nat.mul_succ]; exact Nat.mul_le_mul_left _ hq
  omega

theorem ch_alt {e f g : Nat} (hg : g < 4294967296) : (e &&& f) ^^^ ((4294967295 ^^^ e) &&& g) = ch e f g := by
  unfold ch
  apply Nat.eq_of_testBit_eq
  intro i
  have hm : (4294967295 : Nat).testBit i = decide (i < 32) := Nat.testBit_two_pow_sub_one 32 i
  simp only [Nat.testBit_xor, Nat.testBit_and, hm]
  by_cases hi : i < 32
  · simp only [hi, decide_true]
    cases e.testBit i <;> cases f.testBit i <;> cases g.testBit i <;> rfl
  · have hgi : g.testBit i = false := Nat.testBit_lt_two_pow (Nat.lt_of_lt_of_le hg (Nat.pow_le_pow_right (n := 2) (by decide) (show 32 ≤ i by omega)))
    simp only [hi, decide_false, hgi]
    cases e.testBit i <;> cases f.testBit i <;> rfl
theorem maj_alt {a b c : Nat} : (a &&& b) ^^^ (a &&& c) ^^^ (b &&& c) = maj a b c := by
  unfold maj
  apply Nat.eq_of_testBit_eq
  intro i
  simp only [Nat.testBit_xor, Nat.testBit_and, Nat.testBit_or]
  cases a.testBit i <;> cases b.testBit i <;> cases c.testBit i <;> rfl

theorem s0_lt {x : Nat} (h : x < 4294967296) : s0 x < 4294967296 := xor_lt32 (xor_lt32 (rr_lt h (by decide)) (rr_lt h (by decide))) (by omega)
theorem s1_lt {x : Nat} (h : x < 4294967296) : s1 x < 4294967296 := xor_lt32 (xor_lt32 (rr_lt h (by decide)) (rr_lt h (by decide))) (by omega)
theorem S0_lt {x : Nat} (h : x < 4294967296) : S0 x < 4294967296 := xor_lt32 (xor_lt32 (rr_lt h (by decide)) (rr_lt h (by decide))) (rr_lt h (by decide))
theorem S1_lt {x : Nat} (h : x < 4294967296) : S1 x < 4294967296 := xor_lt32 (xor_lt32 (rr_lt h (by decide)) (rr_lt h (by decide))) (rr_lt h (by decide))
theorem ch_lt {e f g : Nat} (hf : f < 4294967296) (hg : g < 4294967296) : ch e f g < 4294967296 := xor_lt32 hg (and_lt32 (xor_lt32 hf hg))
theorem maj_lt {a b c : Nat} (ha : a < 4294967296) (hb : b < 4294967296) : maj a b c < 4294967296 := or_lt32 (and_lt32 hb) (and_lt32 (or_lt32 ha hb))
theorem round_ok {v : V} {k w : Nat} (h : v.ok) : (round v k w).ok := by
  obtain ⟨ha, hb, hc, hd, he, hf, hg, hh⟩ := h
  exact ⟨Nat.mod_lt _ (by decide), ha, hb, hc, Nat.mod_lt _ (by decide), he, hf, hg⟩
end Go.Sha
