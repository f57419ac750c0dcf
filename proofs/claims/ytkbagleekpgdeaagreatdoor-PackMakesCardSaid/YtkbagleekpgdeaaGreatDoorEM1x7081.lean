/- What functions of the given program do, one after the other, told by that layer. -/
/- Numbers modulo 2^255 - 19: sums, products, powers; limbs of 51 bits. -/
namespace Go.Cv
set_option maxRecDepth 10000

def q : Nat := 57896044618658097711785492504343953926634992332820282019728792003956564819949
def addq (a b : Nat) : Nat := (a + b) % q
def subq (a b : Nat) : Nat := (a + (q - b % q)) % q
def mulq (a b : Nat) : Nat := a * b % q

theorem q_pos : 0 < q := by decide
theorem addq_lt (a b : Nat) : addq a b < q := Nat.mod_lt _ q_pos
theorem subq_lt (a b : Nat) : subq a b < q := Nat.mod_lt _ q_pos
theorem mulq_lt (a b : Nat) : mulq a b < q := Nat.mod_lt _ q_pos
theorem addq_of {a b a' b' : Nat} (ha : a % q = a' % q) (hb : b % q = b' % q) : addq a b = addq a' b' := by
  unfold addq; rw [Nat.add_mod, ha, hb, ← Nat.add_mod]
theorem mulq_of {a b a' b' : Nat} (ha : a % q = a' % q) (hb : b % q = b' % q) : mulq a b = mulq a' b' := by
  unfold mulq; rw [Nat.mul_mod, ha, hb, ← Nat.mul_mod]
theorem subq_of {a b a' b' : Nat} (ha : a % q = a' % q) (hb : b % q = b' % q) : subq a b = subq a' b' := by
  unfold subq; rw [hb, Nat.add_mod, ha, ← Nat.add_mod]
/-- A difference, with so many times q added. -/
theorem subq_add {a b n : Nat} (h : b ≤ a + n * q) : (a + n * q - b) % q = subq a b := by
  unfold subq
  have hb := Nat.mod_lt b q_pos
  have e : a + n * q - b + q * (b / q + 1) = a + (q - b % q) + n * q := by
    have := Nat.div_add_mod b q
    rw [Nat.mul_add, Nat.mul_one]
    omega
  have h1 : (a + n * q - b + q * (b / q + 1)) % q = (a + n * q - b) % q := Nat.add_mul_mod_self_left _ _ _
  rw [← h1, e, Nat.add_mul_mod_self_right]

/-! Powers. -/
def powBits (a : Nat) : List Bool → Nat → Nat
  | [], o => o
  | b :: bs, o => powBits a bs (if b then mulq (mulq o o) a else mulq o o)
def bitsVal : List Bool → Nat → Nat
  | [], m => m
  | b :: bs, m => bitsVal bs (if b then 2 * m + 1 else 2 * m)
theorem powBits_eq (a : Nat) : ∀ (bs : List Bool) (o m : Nat), o % q = a ^ m % q → powBits a bs o % q = a ^ bitsVal bs m % q
  | [], o, m, h => h
  | b :: bs, o, m, h => by
    have h2 : mulq o o % q = a ^ (2 * m) % q := by
      unfold mulq
      rw [Nat.mod_mod, Nat.mul_mod, h, ← Nat.mul_mod, ← Nat.pow_add, Nat.two_mul]
    unfold powBits bitsVal
    refine powBits_eq a bs _ _ ?_
    cases b with
    | false => simpa using h2
    | true =>
      simp only [if_true]
      unfold mulq at h2 ⊢
      rw [Nat.mod_mod] at h2
      rw [Nat.mod_mod, Nat.mul_mod, Nat.mod_mod, h2, ← Nat.mul_mod, ← Nat.pow_succ]
/-- The bits of q - 2, the highest first. -/
def invBits : List Bool := (List.range 255).map fun i => !(i == 250 || i == 252)
def invq (a : Nat) : Nat := powBits a invBits 1
theorem invBits_val : bitsVal invBits 0 = q - 2 := by decide +kernel
theorem invq_eq (a : Nat) : invq a % q = a ^ (q - 2) % q := by
  have := powBits_eq a invBits 1 0 (by simp)
  rw [invBits_val] at this
  exact this
theorem powBits_lt (a : Nat) : ∀ (bs : List Bool) (o : Nat), o < q → powBits a bs o < q
  | [], _, h => h
  | b :: bs, o, _ => by
    unfold powBits
    refine powBits_lt a bs _ ?_
    cases b <;> simp [mulq_lt]
theorem invq_lt (a : Nat) : invq a < q := powBits_lt a _ _ (by decide)
/-- A power, told by its exponent. -/
def Pw (a x n : Nat) : Prop := x % q = a ^ n % q
theorem Pw.one (a : Nat) : Pw a a 1 := by unfold Pw; rw [Nat.pow_one]
theorem Pw.mul {a x y m n z : Nat} (hx : Pw a x m) (hy : Pw a y n) (hz : z % q = mulq x y) : Pw a z (m + n) := by
  unfold Pw at *
  rw [hz, Nat.pow_add, Nat.mul_mod, ← hx, ← hy, ← Nat.mul_mod]
  rfl
theorem Pw.inv {a x n : Nat} (h : Pw a x n) (hn : n = q - 2) : x % q = invq a := by
  unfold Pw at h
  rw [h, hn, ← invq_eq, Nat.mod_eq_of_lt (invq_lt a)]

/-! The ladder. -/
structure Four where
  x2 : Nat
  z2 : Nat
  x3 : Nat
  z3 : Nat
def Four.swap (s : Four) : Four := ⟨s.x3, s.z3, s.x2, s.z2⟩
def lstep (u : Nat) (s : Four) : Four :=
  let a := addq s.x2 s.z2
  let b := subq s.x2 s.z2
  let aa := mulq a a
  let bb := mulq b b
  let e := subq aa bb
  let da := mulq (subq s.x3 s.z3) a
  let cb := mulq (addq s.x3 s.z3) b
  let p := addq da cb
  let m := subq da cb
  ⟨mulq aa bb, mulq e (addq aa (mulq 121665 e)), mulq p p, mulq u (mulq m m)⟩
/-- One bit of the ladder. -/
def lbit (u : Nat) (s : Four) (b : Bool) : Four := if b then (lstep u s.swap).swap else lstep u s
/-- So many bits of a number, the highest one first. -/
def lad (k u : Nat) : Nat → Four
  | 0 => ⟨1, 0, u, 1⟩
  | i + 1 => lbit u (lad k u i) (k.testBit (254 - i))
def ladx (k u : Nat) : Nat := let s := lad k u 255; mulq s.x2 (invq s.z2)

/-! Bytes. -/
def leNat : List UInt8 → Nat
  | [] => 0
  | b :: l => b.toNat + 256 * leNat l
def le32 (n : Nat) : List UInt8 := (List.range 32).map fun i => UInt8.ofNat (n / 2 ^ (8 * i))
/-- A scalar, clamped. -/
def clampN (k : List UInt8) : Nat := leNat k % 2 ^ 254 / 8 * 8 + 2 ^ 254
def x25519 (k u : List UInt8) : List UInt8 := le32 (ladx (clampN k) (leNat u % 2 ^ 255 % q))
def base9 : List UInt8 := le32 9
end Go.Cv
namespace Go.Cv
/-! What the curve's functions tell: bytes, and why not. -/
def timesR (k u : List UInt8) : List UInt8 × Nat := if k.length = 32 ∧ u.length = 32 then (x25519 k u, 0) else ([], 3)
def publicR (k : List UInt8) : List UInt8 × Nat := timesR k base9
def sharedR (k u : List UInt8) : List UInt8 × Nat := if (timesR k u).2 ≠ 0 then ([], (timesR k u).2) else if (timesR k u).1 = le32 0 then ([], 20) else timesR k u
def chainGo : List UInt8 → List (List UInt8) → List UInt8 × Nat
  | u, [] => (u, 0)
  | u, k :: ks => if (sharedR k u).2 ≠ 0 then ([], (sharedR k u).2) else chainGo (sharedR k u).1 ks
def chainR (u : List UInt8) (ks : List (List UInt8)) : List UInt8 × Nat := if ¬ ∀ s ∈ u :: ks, s.length = 32 then ([], 3) else if 16 < ks.length then ([], 2) else chainGo u ks
end Go.Cv

/- Limbs of 51 bits: what a carry and a product leave of the number. -/
namespace Go.Cv

/-- Five limbs' number. -/
def limb (a b c d e : Nat) : Nat := a + 2251799813685248 * b + 5070602400912917605986812821504 * c + 11417981541647679048466287755595961091061972992 * d + 25711008708143844408671393477458601640355247900524685364822016 * e

theorem limb_carry {a b c d e b' c' d' e' : Nat} (hb : b' = b + a / 2251799813685248) (hc : c' = c + b' / 2251799813685248) (hd : d' = d + c' / 2251799813685248) (he : e' = e + d' / 2251799813685248) :
    limb (a % 2251799813685248 + 19 * (e' / 2251799813685248)) (b' % 2251799813685248) (c' % 2251799813685248) (d' % 2251799813685248) (e' % 2251799813685248) + q * (e' / 2251799813685248) = limb a b c d e := by
  unfold limb q
  omega
theorem limb_wide {a b c d e : Nat} :
    limb (a % 2251799813685248 + 19 * (e / 2251799813685248)) (b % 2251799813685248 + a / 2251799813685248) (c % 2251799813685248 + b / 2251799813685248) (d % 2251799813685248 + c / 2251799813685248) (e % 2251799813685248 + d / 2251799813685248) + q * (e / 2251799813685248) = limb a b c d e := by
  unfold limb q
  omega
theorem limb_mul (a0 a1 a2 a3 a4 b0 b1 b2 b3 b4 : Nat) :
    limb (a0 * b0 + a1 * (b4 * 19) + a2 * (b3 * 19) + a3 * (b2 * 19) + a4 * (b1 * 19)) (a0 * b1 + a1 * b0 + a2 * (b4 * 19) + a3 * (b3 * 19) + a4 * (b2 * 19)) (a0 * b2 + a1 * b1 + a2 * b0 + a3 * (b4 * 19) + a4 * (b3 * 19)) (a0 * b3 + a1 * b2 + a2 * b1 + a3 * b0 + a4 * (b4 * 19)) (a0 * b4 + a1 * b3 + a2 * b2 + a3 * b1 + a4 * b0)
      + q * (a1 * b4 + a2 * b3 + a3 * b2 + a4 * b1 + 2251799813685248 * (a2 * b4 + a3 * b3 + a4 * b2) + 5070602400912917605986812821504 * (a3 * b4 + a4 * b3) + 11417981541647679048466287755595961091061972992 * (a4 * b4)) =
    limb a0 a1 a2 a3 a4 * limb b0 b1 b2 b3 b4 := by
  unfold limb q
  grind
end Go.Cv

namespace Go.Nm
open Go.Cv
set_option maxRecDepth 10000
/-- The value of digits to the base 2^26, the lowest first. -/
def val : List Int → Int
  | [] => 0
  | d :: l => d + 67108864 * val l
/-- Digits of a number: n of them, and what stands above. -/
def dig : Nat → Int → List Int
  | 0, V => [V]
  | n + 1, V => V % 67108864 :: dig n (V / 67108864)
/-- Digits evened. -/
def ev : List Int → List Int
  | [] => []
  | [a] => [a]
  | a :: b :: r => a % 67108864 :: ev ((b + a / 67108864) :: r)
termination_by l => l.length
theorem dig_len : ∀ (n : Nat) (V : Int), (dig n V).length = n + 1
  | 0, _ => rfl
  | n + 1, V => by rw [dig, List.length_cons, dig_len]
theorem val_dig : ∀ (n : Nat) (V : Int), val (dig n V) = V
  | 0, V => by simp [dig, val]
  | n + 1, V => by
    rw [dig, val, val_dig n]
    omega
theorem ev_dig : ∀ (n : Nat) (l : List Int), l.length = n + 1 → ev l = dig n (val l)
  | 0, [a], _ => by simp [ev, dig, val]
  | n + 1, a :: b :: r, h => by
    have ih := ev_dig n ((b + a / 67108864) :: r) (by simpa using h)
    rw [ev, ih, dig]
    simp only [val]
    have e1 : (a + 67108864 * (b + 67108864 * val r)) % 67108864 = a % 67108864 := by omega
    have e2 : (a + 67108864 * (b + 67108864 * val r)) / 67108864 = b + a / 67108864 + 67108864 * val r := by omega
    rw [e1, e2]
theorem dig_get : ∀ (n i : Nat) (V : Int), i < n → (dig n V)[i]? = some (V / 67108864 ^ i % 67108864)
  | n + 1, 0, V, _ => by simp [dig]
  | n + 1, i + 1, V, h => by
    rw [dig, List.getElem?_cons_succ, dig_get n i _ (by omega), Int.ediv_ediv_of_nonneg (by decide), Int.pow_succ, Int.mul_comm]
theorem dig_top : ∀ (n : Nat) (V : Int), (dig n V)[n]? = some (V / 67108864 ^ n)
  | 0, V => by simp [dig]
  | n + 1, V => by
    rw [dig, List.getElem?_cons_succ, dig_top n, Int.ediv_ediv_of_nonneg (by decide), Int.pow_succ, Int.mul_comm]
theorem val_set : ∀ (l : List Int) (i : Nat) (x : Int), i < l.length → val (l.set i x) = val l + 67108864 ^ i * (x - l.getD i 0)
  | a :: l, 0, x, _ => by simp [val]; omega
  | a :: l, i + 1, x, h => by
    rw [List.set_cons_succ, val, val_set l i x (by simpa using h), val, List.getD_cons_succ, Int.pow_succ]
    grind
theorem val_take_succ : ∀ (l : List Int) (i : Nat), i < l.length → val (l.take (i + 1)) = val (l.take i) + 67108864 ^ i * l.getD i 0
  | a :: l, 0, _ => by simp [val]
  | a :: l, i + 1, h => by
    rw [List.take_succ_cons, val, val_take_succ l i (by simpa using h), List.take_succ_cons, val, List.getD_cons_succ, Int.pow_succ]
    grind
theorem val_append : ∀ (a b : List Int), val (a ++ b) = val a + 67108864 ^ a.length * val b
  | [], b => by simp [val]
  | x :: a, b => by
    rw [List.cons_append, val, val_append a b, val, List.length_cons, Int.pow_succ]
    grind
/-- Digits of a number that stands for one of the field. -/
def dg (V : Int) : List Int := dig 9 V
theorem dg_len (V : Int) : (dg V).length = 10 := dig_len 9 V
theorem val_dg (V : Int) : val (dg V) = V := val_dig 9 V
theorem dg_get {V : Int} {i : Nat} (h : i < 9) : (dg V).getD i 0 = V / 67108864 ^ i % 67108864 := by
  rw [List.getD_eq_getElem?_getD, dg, dig_get 9 i V h]; rfl
theorem dg_top (V : Int) : (dg V).getD 9 0 = V / 67108864 ^ 9 := by
  rw [List.getD_eq_getElem?_getD, dg, dig_top]; rfl
/-- All digits between two bounds. -/
def In (l : List Int) (a b : Int) : Prop := ∀ i, i < l.length → a ≤ l.getD i 0 ∧ l.getD i 0 ≤ b
theorem In.mono {l : List Int} {a b c d : Int} (h : In l a b) (h1 : c ≤ a) (h2 : b ≤ d) : In l c d := fun i hi => by have := h i hi; omega
theorem In.tail {x : Int} {l : List Int} {a b : Int} (h : In (x :: l) a b) : In l a b := fun i hi => by have := h (i + 1) (by simpa using hi); simpa using this
theorem In.head {x : Int} {l : List Int} {a b : Int} (h : In (x :: l) a b) : a ≤ x ∧ x ≤ b := by have := h 0 (by simp); simpa using this
theorem In.cons {x : Int} {l : List Int} {a b : Int} (h1 : a ≤ x ∧ x ≤ b) (h : In l a b) : In (x :: l) a b := fun i hi => by
  cases i with
  | zero => simpa using h1
  | succ i => simpa using h i (by simpa using hi)
theorem In.nil {a b : Int} : In [] a b := fun i hi => absurd hi (by simp)
theorem In.set {l : List Int} {a b x : Int} {i : Nat} (h : In l a b) (hx : a ≤ x ∧ x ≤ b) : In (l.set i x) a b := fun j hj => by
  rw [List.length_set] at hj
  rw [List.getD_eq_getElem?_getD, List.getElem?_set]
  split
  · split
    · simpa using hx
    · rename_i h1 h2; omega
  · rw [← List.getD_eq_getElem?_getD]; exact h j hj
theorem val_bounds : ∀ (l : List Int) {a b : Int}, In l a b → a ≤ 0 → 0 ≤ b → a * (67108864 ^ l.length - 1) ≤ val l * 67108863 ∧ val l * 67108863 ≤ b * (67108864 ^ l.length - 1)
  | [], _, _, _, _, _ => by simp [val]
  | x :: l, a, b, h, ha, hb => by
    have ih := val_bounds l h.tail ha hb
    have hx := h.head
    rw [val, List.length_cons, Int.pow_succ]
    generalize (67108864 : Int) ^ l.length = p at *
    constructor <;> grind
theorem dig_in : ∀ (n : Nat) (V : Int), 0 ≤ V → In (dig n V) 0 (max 67108863 (V / 67108864 ^ n))
  | 0, V, h => by
    refine In.cons ⟨h, ?_⟩ In.nil
    simp; omega
  | n + 1, V, h => by
    have h2 : V / 67108864 / 67108864 ^ n = V / 67108864 ^ (n + 1) := by rw [Int.ediv_ediv_of_nonneg (by decide), Int.pow_succ, Int.mul_comm]
    have ih := dig_in n (V / 67108864) (by omega)
    rw [h2] at ih
    rw [dig]
    exact In.cons ⟨by omega, by omega⟩ ih
theorem digs_cmp {V W : Int} {i : Nat} (hi : i ≤ 9) (h : i < 9 → V / 67108864 ^ (i + 1) = W / 67108864 ^ (i + 1)) :
    ((dg V).getD i 0 = (dg W).getD i 0 ↔ V / 67108864 ^ i = W / 67108864 ^ i) ∧ ((dg V).getD i 0 < (dg W).getD i 0 ↔ V / 67108864 ^ i < W / 67108864 ^ i) := by
  by_cases h9 : i = 9
  · subst h9; rw [dg_top, dg_top]; exact ⟨Iff.rfl, Iff.rfl⟩
  · have hlt : i < 9 := by omega
    have h1 := h hlt
    rw [dg_get hlt, dg_get hlt]
    have e : ∀ X : Int, X / 67108864 ^ (i + 1) = X / 67108864 ^ i / 67108864 := fun X => by rw [Int.pow_succ, Int.ediv_ediv_of_nonneg (Int.pow_nonneg (by decide))]
    rw [e, e] at h1
    omega
end Go.Nm
namespace Go.Nm
open Go.Cv
theorem dg_lo {V : Int} {i : Nat} (h : i < 9) : 0 ≤ (dg V).getD i 0 ∧ (dg V).getD i 0 ≤ 67108863 := by rw [dg_get h]; omega
theorem in_two {V x y a b : Int} (hx : a ≤ x ∧ x ≤ b) (hy : a ≤ y ∧ y ≤ b) (ha : a ≤ 0) (hb : 67108863 ≤ b) : In (((dg V).set 9 x).set 0 y) a b := by
  intro i hi
  rw [List.length_set, List.length_set, dg_len] at hi
  rw [List.getD_eq_getElem?_getD, List.getElem?_set]
  split
  · simpa [dg_len] using hy
  · rw [List.getElem?_set]
    split
    · simpa [dg_len] using hx
    · have := dg_lo (V := V) (i := i) (by omega)
      rw [← List.getD_eq_getElem?_getD]
      omega
theorem val_two (V x y : Int) : val (((dg V).set 9 x).set 0 y) = V + 67108864 ^ 9 * (x - V / 67108864 ^ 9) + (y - V % 67108864) := by
  rw [val_set _ _ _ (by rw [List.length_set, dg_len]; decide), val_set _ _ _ (by rw [dg_len]; decide), val_dg, dg_top]
  have e : ((dg V).set 9 x).getD 0 0 = V % 67108864 := by
    rw [List.getD_eq_getElem?_getD, List.getElem?_set_ne (by decide), ← List.getD_eq_getElem?_getD, dg_get (by decide)]
    simp
  rw [e]
  simp
theorem div_lt {V W p : Int} (hp : 0 < p) (h : V / p < W / p) : V < W := by
  apply Int.not_le.1
  intro h2
  have := Int.ediv_le_ediv hp h2
  omega
theorem top_lt {l : List Int} (hl : l.length = 10) (h : In l (-1152921504606846976) 1152921504606846976) : val l / 67108864 ^ 9 < 2305843009213693952 := by
  have := (val_bounds l h (by decide) (by decide)).2
  rw [hl] at this
  omega
theorem dg_in {V : Int} (h : 0 ≤ V) {b : Int} (hb : 67108863 ≤ b) (ht : V / 67108864 ^ 9 ≤ b) : In (dg V) 0 b := (dig_in 9 V h).mono (Int.le_refl _) (by omega)
theorem p_digs : ((List.replicate 10 (67108863 : Int)).set 0 67108845).set 9 2097151 = dg (q : Int) := by decide +kernel
end Go.Nm
