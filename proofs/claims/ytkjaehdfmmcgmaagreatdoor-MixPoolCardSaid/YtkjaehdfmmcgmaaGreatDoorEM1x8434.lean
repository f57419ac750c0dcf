/- What functions of the given program do, one after the other, told by that layer. -/
/- Numbers modulo 2^255 - 19: sums, products, powers; limbs of 51 bits. -/
namespace Go.Cv
set_option maxRecDepth 10000

def q : Nat := 57896044618658097711785492504343953926634992332820282019728792003956564819949
def addq (a b : Nat) : Nat := (a + b) % q
def subq (a b : Nat) : Nat := (a + (q - b % q)) % q
def mulq (a b : Nat) : Nat := a * b % q

theorem q_pos : 0 < q := by decide
theorem mulq_lt (a b : Nat) : mulq a b < q := Nat.mod_lt _ q_pos
theorem addq_of {a b a' b' : Nat} (ha : a % q = a' % q) (hb : b % q = b' % q) : addq a b = addq a' b' := by
  unfold addq; rw [Nat.add_mod, ha, hb, ← Nat.add_mod]
theorem mulq_of {a b a' b' : Nat} (ha : a % q = a' % q) (hb : b % q = b' % q) : mulq a b = mulq a' b' := by
  unfold mulq; rw [Nat.mul_mod, ha, hb, ← Nat.mul_mod]
theorem subq_of {a b a' b' : Nat} (ha : a % q = a' % q) (hb : b % q = b' % q) : subq a b = subq a' b' := by
  unfold subq; rw [hb, Nat.add_mod, ha, ← Nat.add_mod]
/-- A difference, with so many times q added. -/
theorem subq_add {a b n : Nat} (h : b ≤ a + n * q) : (a + n * q - b) % q = subq a b := by
  unfold subq
  have hb := Nat.mod_lt b q_pos
  have e : a + n * q - b + q * (b / q + 1) = a + (q - b % q) + n * q := by
    have := Nat.div_add_mod b q
    rw [Nat.mul_add, Nat.mul_one]
    omega
  have h1 : (a + n * q - b + q * (b / q + 1)) % q = (a + n * q - b) % q := Nat.add_mul_mod_self_left _ _ _
  rw [← h1, e, Nat.add_mul_mod_self_right]

/-! Powers. -/
def powBits (a : Nat) : List Bool → Nat → Nat
  | [], o => o
  | b :: bs, o => powBits a bs (if b then mulq (mulq o o) a else mulq o o)
def bitsVal : List Bool → Nat → Nat
  | [], m => m
  | b :: bs, m => bitsVal bs (if b then 2 * m + 1 else 2 * m)
theorem powBits_eq (a : Nat) : ∀ (bs : List Bool) (o m : Nat), o % q = a ^ m % q → powBits a bs o % q = a ^ bitsVal bs m % q
  | [], o, m, h => h
  | b :: bs, o, m, h => by
    have h2 : mulq o o % q = a ^ (2 * m) % q := by
      unfold mulq
      rw [Nat.mod_mod, Nat.mul_mod, h, ← Nat.mul_mod, ← Nat.pow_add, Nat.two_mul]
    unfold powBits bitsVal
    refine powBits_eq a bs _ _ ?_
    cases b with
    | false => simpa using h2
    | true =>
      simp only [if_true]
      unfold mulq at h2 ⊢
      rw [Nat.mod_mod] at h2
      rw [Nat.mod_mod, Nat.mul_mod, Nat.mod_mod, h2, ← Nat.mul_mod, ← Nat.pow_succ]
/-- The bits of q - 2, the highest first. -/
def invBits : List Bool := (List.range 255).map fun i => !(i == 250 || i == 252)
def invq (a : Nat) : Nat := powBits a invBits 1
theorem invBits_val : bitsVal invBits 0 = q - 2 := by decide +kernel
theorem invq_eq (a : Nat) : invq a % q = a ^ (q - 2) % q := by
  have := powBits_eq a invBits 1 0 (by simp)
  rw [invBits_val] at this
  exact this
theorem powBits_lt (a : Nat) : ∀ (bs : List Bool) (o : Nat), o < q → powBits a bs o < q
  | [], _, h => h
  | b :: bs, o, _ => by
    unfold powBits
    refine powBits_lt a bs _ ?_
    cases b <;> simp [mulq_lt]
theorem invq_lt (a : Nat) : invq a < q := powBits_lt a _ _ (by decide)
/-- A power, told by its exponent. -/
def Pw (a x n : Nat) : Prop := x % q = a ^ n % q
theorem Pw.one (a : Nat) : Pw a a 1 := by unfold Pw; rw [Nat.pow_one]
theorem Pw.mul {a x y m n z : Nat} (hx : Pw a x m) (hy : Pw a y n) (hz : z % q = mulq x y) : Pw a z (m + n) := by
  unfold Pw at *
  rw [hz, Nat.pow_add, Nat.mul_mod, ← hx, ← hy, ← Nat.mul_mod]
  rfl
theorem Pw.inv {a x n : Nat} (h : Pw a x n) (hn : n = q - 2) : x % q = invq a := by
  unfold Pw at h
  rw [h, hn, ← invq_eq, Nat.mod_eq_of_lt (invq_lt a)]

/-! The ladder. -/
structure Four where
  x2 : Nat
  z2 : Nat
  x3 : Nat
  z3 : Nat
def Four.swap (s : Four) : Four := ⟨s.x3, s.z3, s.x2, s.z2⟩
def lstep (u : Nat) (s : Four) : Four :=
  let a := addq s.x2 s.z2
  let b := subq s.x2 s.z2
  let aa := mulq a a
  let bb := mulq b b
  let e := subq aa bb
  let da := mulq (subq s.x3 s.z3) a
  let cb := mulq (addq s.x3 s.z3) b
  let p := addq da cb
  let m := subq da cb
  ⟨mulq aa bb, mulq e (addq aa (mulq 121665 e)), mulq p p, mulq u (mulq m m)⟩
/-- One bit of the ladder. -/
def lbit (u : Nat) (s : Four) (b : Bool) : Four := if b then (lstep u s.swap).swap else lstep u s
/-- So many bits of a number, the highest one first. -/
def lad (k u : Nat) : Nat → Four
  | 0 => ⟨1, 0, u, 1⟩
  | i + 1 => lbit u (lad k u i) (k.testBit (254 - i))
def ladx (k u : Nat) : Nat := let s := lad k u 255; mulq s.x2 (invq s.z2)

/-! Bytes. -/
def leNat : List UInt8 → Nat
  | [] => 0
  | b :: l => b.toNat + 256 * leNat l
def le32 (n : Nat) : List UInt8 := (List.range 32).map fun i => UInt8.ofNat (n / 2 ^ (8 * i))
/-- A scalar, clamped. -/
def clampN (k : List UInt8) : Nat := leNat k % 2 ^ 254 / 8 * 8 + 2 ^ 254
def x25519 (k u : List UInt8) : List UInt8 := le32 (ladx (clampN k) (leNat u % 2 ^ 255 % q))
def base9 : List UInt8 := le32 9
end Go.Cv
namespace Go.Cv
/-! What the curve's functions tell: bytes, and why not. -/
def timesR (k u : List UInt8) : List UInt8 × Nat := if k.length = 32 ∧ u.length = 32 then (x25519 k u, 0) else ([], 3)
def publicR (k : List UInt8) : List UInt8 × Nat := timesR k base9
def sharedR (k u : List UInt8) : List UInt8 × Nat := if (timesR k u).2 ≠ 0 then ([], (timesR k u).2) else if (timesR k u).1 = le32 0 then ([], 20) else timesR k u
def chainGo : List UInt8 → List (List UInt8) → List UInt8 × Nat
  | u, [] => (u, 0)
  | u, k :: ks => if (sharedR k u).2 ≠ 0 then ([], (sharedR k u).2) else chainGo (sharedR k u).1 ks
def chainR (u : List UInt8) (ks : List (List UInt8)) : List UInt8 × Nat := if ¬ ∀ s ∈ u :: ks, s.length = 32 then ([], 3) else if 16 < ks.length then ([], 2) else chainGo u ks
end Go.Cv

/- Limbs of 51 bits: what a carry and a product leave of the number. -/
namespace Go.Cv

/-- Five limbs' number. -/
def limb (a b c d e : Nat) : Nat := a + 2251799813685248 * b + 5070602400912917605986812821504 * c + 11417981541647679048466287755595961091061972992 * d + 25711008708143844408671393477458601640355247900524685364822016 * e

theorem limb_carry {a b c d e b' c' d' e' : Nat} (hb : b' = b + a / 2251799813685248) (hc : c' = c + b' / 2251799813685248) (hd : d' = d + c' / 2251799813685248) (he : e' = e + d' / 2251799813685248) :
    limb (a % 2251799813685248 + 19 * (e' / 2251799813685248)) (b' % 2251799813685248) (c' % 2251799813685248) (d' % 2251799813685248) (e' % 2251799813685248) + q * (e' / 2251799813685248) = limb a b c d e := by
  unfold limb q
  omega
theorem limb_wide {a b c d e : Nat} :
    limb (a % 2251799813685248 + 19 * (e / 2251799813685248)) (b % 2251799813685248 + a / 2251799813685248) (c % 2251799813685248 + b / 2251799813685248) (d % 2251799813685248 + c / 2251799813685248) (e % 2251799813685248 + d / 2251799813685248) + q * (e / 2251799813685248) = limb a b c d e := by
  unfold limb q
  omega
theorem limb_mul (a0 a1 a2 a3 a4 b0 b1 b2 b3 b4 : Nat) :
    limb (a0 * b0 + a1 * (b4 * 19) + a2 * (b3 * 19) + a3 * (b2 * 19) + a4 * (b1 * 19)) (a0 * b1 + a1 * b0 + a2 * (b4 * 19) + a3 * (b3 * 19) + a4 * (b2 * 19)) (a0 * b2 + a1 * b1 + a2 * b0 + a3 * (b4 * 19) + a4 * (b3 * 19)) (a0 * b3 + a1 * b2 + a2 * b1 + a3 * b0 + a4 * (b4 * 19)) (a0 * b4 + a1 * b3 + a2 * b2 + a3 * b1 + a4 * b0)
      + q * (a1 * b4 + a2 * b3 + a3 * b2 + a4 * b1 + 2251799813685248 * (a2 * b4 + a3 * b3 + a4 * b2) + 5070602400912917605986812821504 * (a3 * b4 + a4 * b3) + 11417981541647679048466287755595961091061972992 * (a4 * b4)) =
    limb a0 a1 a2 a3 a4 * limb b0 b1 b2 b3 b4 := by
  unfold limb q
  grind
end Go.Cv
