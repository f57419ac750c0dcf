/- What functions of the given program do, one after the other, told by that layer. -/
import Derived.Test.YtkjaehdfmmcgmaaGreatDoorLgM3x86f8
/- SHA-256 over plain numbers. -/
namespace Go.Sha

def M : Nat := 4294967296
/-- A word turned to the right. -/
def rr (x n : Nat) : Nat := x / 2 ^ n + x * 2 ^ (32 - n) % 4294967296
def s0 (x : Nat) : Nat := rr x 7 ^^^ rr x 18 ^^^ x / 8
def s1 (x : Nat) : Nat := rr x 17 ^^^ rr x 19 ^^^ x / 1024
def S1 (x : Nat) : Nat := rr x 6 ^^^ rr x 11 ^^^ rr x 25
def S0 (x : Nat) : Nat := rr x 2 ^^^ rr x 13 ^^^ rr x 22
def ch (e f g : Nat) : Nat := g ^^^ (e &&& (f ^^^ g))
def maj (a b c : Nat) : Nat := (a &&& b) ||| (c &&& (a ||| b))

def ks : List Nat := [
    0x428a2f98, 0x71374491, 0xb5c0fbcf, 0xe9b5dba5, 0x3956c25b, 0x59f111f1, 0x923f82a4, 0xab1c5ed5,
    0xd807aa98, 0x12835b01, 0x243185be, 0x550c7dc3, 0x72be5d74, 0x80deb1fe, 0x9bdc06a7, 0xc19bf174,
    0xe49b69c1, 0xefbe4786, 0x0fc19dc6, 0x240ca1cc, 0x2de92c6f, 0x4a7484aa, 0x5cb0a9dc, 0x76f988da,
    0x983e5152, 0xa831c66d, 0xb00327c8, 0xbf597fc7, 0xc6e00bf3, 0xd5a79147, 0x06ca6351, 0x14292967,
    0x27b70a85, 0x2e1b2138, 0x4d2c6dfc, 0x53380d13, 0x650a7354, 0x766a0abb, 0x81c2c92e, 0x92722c85,
    0xa2bfe8a1, 0xa81a664b, 0xc24b8b70, 0xc76c51a3, 0xd192e819, 0xd6990624, 0xf40e3585, 0x106aa070,
    0x19a4c116, 0x1e376c08, 0x2748774c, 0x34b0bcb5, 0x391c0cb3, 0x4ed8aa4a, 0x5b9cca4f, 0x682e6ff3,
    0x748f82ee, 0x78a5636f, 0x84c87814, 0x8cc70208, 0x90befffa, 0xa4506ceb, 0xbef9a3f7, 0xc67178f2]

/-- Eight words. -/
structure V where
  a : Nat
  b : Nat
  c : Nat
  d : Nat
  e : Nat
  f : Nat
  g : Nat
  h : Nat

def V.list (v : V) : List Nat := [v.a, v.b, v.c, v.d, v.e, v.f, v.g, v.h]
def V.ok (v : V) : Prop := v.a < 4294967296 ∧ v.b < 4294967296 ∧ v.c < 4294967296 ∧ v.d < 4294967296 ∧ v.e < 4294967296 ∧ v.f < 4294967296 ∧ v.g < 4294967296 ∧ v.h < 4294967296

def v0 : V := ⟨0x6a09e667, 0xbb67ae85, 0x3c6ef372, 0xa54ff53a, 0x510e527f, 0x9b05688c, 0x1f83d9ab, 0x5be0cd19⟩

def tt (v : V) (k w : Nat) : Nat := (v.h + S1 v.e + ch v.e v.f v.g + k + w) % 4294967296
def uu (v : V) : Nat := (S0 v.a + maj v.a v.b v.c) % 4294967296
/-- One round, with a constant and a word. -/
def round (v : V) (k w : Nat) : V := ⟨(tt v k w + uu v) % 4294967296, v.a, v.b, v.c, (v.d + tt v k w) % 4294967296, v.e, v.f, v.g⟩

/-- The next sixteen words. -/
def nextw (l : List Nat) : List Nat := l.drop 1 ++ [(l.getD 0 0 + s0 (l.getD 1 0) + l.getD 9 0 + s1 (l.getD 14 0)) % 4294967296]
def rstep (p : List Nat × V) (k : Nat) : List Nat × V := (nextw p.1, round p.2 k (p.1.getD 0 0))
/-- Rounds, over the next sixteen words. -/
def rounds (l ws : List Nat) (v : V) : V := (l.foldl rstep (ws, v)).2

def add (x y : Nat) : Nat := (x + y) % 4294967296
def V.plus (v w : V) : V := ⟨add v.a w.a, add v.b w.b, add v.c w.c, add v.d w.d, add v.e w.e, add v.f w.f, add v.g w.g, add v.h w.h⟩

def be (l : List UInt8) : Nat := l.foldl (fun n b => n * 256 + b.toNat) 0
/-- Bytes as words of four. -/
def words : Nat → List UInt8 → List Nat
  | 0, _ => []
  | n + 1, l => be (l.take 4) :: words n (l.drop 4)

/-- A block goes in. -/
def press (v : V) (block : List UInt8) : V := v.plus (rounds ks (words 16 block) v)

/-- Blocks go in. -/
def pressAll : Nat → V → List UInt8 → V
  | 0, v, _ => v
  | n + 1, v, l => pressAll n (press v (l.take 64)) (l.drop 64)

def tail8 (n : Nat) : List UInt8 := (List.range 8).map fun i => UInt8.ofNat (n / 2 ^ (56 - 8 * i))
def pad (n : Nat) : List UInt8 := 128 :: (List.replicate ((119 - n % 64) % 64) 0 ++ tail8 (n * 8))
def out (v : V) : List UInt8 := v.list.flatMap fun x => [UInt8.ofNat (x / 16777216), UInt8.ofNat (x / 65536), UInt8.ofNat (x / 256), UInt8.ofNat x]
/-- The digest of a text. -/
def sha (s : List UInt8) : List UInt8 := out (pressAll ((s.length + 72) / 64) v0 (s ++ pad s.length))
end Go.Sha

/- Words of SHA-256 in other forms. -/
namespace Go.Sha
open Go.Lg

theorem rr_lt {x n : Nat} (hx : x < 4294967296) (hn : n ≤ 32) : rr x n < 4294967296 := by
 unfold rr
 have hm : n + (32 - n) = 32 := by omega
 have h1 : x / 2 ^ n < 2 ^ (32 - n) := by
  rw [Nat.div_lt_iff_lt_mul (Nat.two_pow_pos n), ← Nat.pow_add, Nat.add_comm, hm]; exact hx
 have hmod : x * 2 ^ (32 - n) % 4294967296 % 2 ^ (32 - n) = 0 := by
  have : (4294967296 : Nat) = 2 ^ (32 - n) * 2 ^ n := by rw [← Nat.pow_add, Nat.add_comm, hm]
  rw [this, Nat.mod_mul_right_mod, Nat.mul_mod_left]
 have h2 := Nat.mod_lt (x * 2 ^ (32 - n)) (show 4294967296 > 0 by decide)
 generalize x * 2 ^ (32 - n) % 4294967296 = y at *
 have : (4294967296 : Nat) = 2 ^ (32 - n) * 2 ^ n := by rw [← Nat.pow_add, Nat.add_comm, hm]
 obtain ⟨q, rfl⟩ := Nat.dvd_of_mod_eq_zero hmod
 have hq : q < 2 ^ n := by
  rw [this] at h2
  exact Nat.lt_of_mul_lt_mul_left h2
 have : 2 ^ (32 - n) * q + 2 ^ (32 - n) ≤ 2 ^ (32 - n) * 2 ^ n := by
  rw [← Nat.mul_succ]; exact Nat.mul_le_mul_left _ hq
 omega

theorem round_ok {v : V} {k w : Nat} (h : v.ok) : (round v k w).ok := by
 obtain ⟨ha, hb, hc, hd, he, hf, hg, hh⟩ := h
 exact ⟨Nat.mod_lt _ (by decide), ha, hb, hc, Nat.mod_lt _ (by decide), he, hf, hg⟩
end Go.Sha

/- The words of a block, by their numbers. -/
namespace Go.Sha

def win (W : Nat → Nat) (t : Nat) : List Nat := [W t, W (t + 1), W (t + 2), W (t + 3), W (t + 4), W (t + 5), W (t + 6), W (t + 7), W (t + 8), W (t + 9), W (t + 10), W (t + 11), W (t + 12), W (t + 13), W (t + 14), W (t + 15)]
structure Sched (W : Nat → Nat) : Prop where
  next : ∀ t, W (t + 16) = (W t + s0 (W (t + 1)) + W (t + 9) + s1 (W (t + 14))) % 4294967296
  small : ∀ t, W t < 4294967296
def rv (W : Nat → Nat) (v : V) : Nat → V
  | 0 => v
  | t + 1 => round (rv W v t) (ks.getD t 0) (W t)

theorem ks_len : ks.length = 64 := rfl
theorem rounds_nil (ws : List Nat) (v : V) : rounds [] ws v = v := rfl
theorem rounds_cons (k : Nat) (l ws : List Nat) (v : V) : rounds (k :: l) ws v = rounds l (nextw ws) (round v k (ws.getD 0 0)) := by
  unfold rounds
  rw [List.foldl_cons, rstep]
theorem win_head (W : Nat → Nat) (t : Nat) : (win W t).getD 0 0 = W t := rfl
theorem nextw_win (W : Nat → Nat) (t : Nat) (h : Sched W) : nextw (win W t) = win W (t + 1) := by
  show [W (t + 1), W (t + 2), W (t + 3), W (t + 4), W (t + 5), W (t + 6), W (t + 7), W (t + 8), W (t + 9), W (t + 10), W (t + 11), W (t + 12), W (t + 13), W (t + 14), W (t + 15), (W t + s0 (W (t + 1)) + W (t + 9) + s1 (W (t + 14))) % 4294967296] = _
  rw [← h.next t]
  rfl
theorem rounds_step (W : Nat → Nat) (k t : Nat) (l : List Nat) (v : V) (h : Sched W) : rounds (k :: l) (win W t) v = rounds l (win W (t + 1)) (round v k (W t)) := by
  rw [rounds_cons, nextw_win W t h, win_head]
theorem rounds_rv {W : Nat → Nat} {v : V} (h : Sched W) : ∀ n t, t + n = 64 → rounds (ks.drop t) (win W t) (rv W v t) = rv W v (t + n)
  | 0, t, e => by
    rw [List.drop_of_length_le (by rw [ks_len]; omega), rounds_nil, Nat.add_zero]
  | n + 1, t, e => by
    have hlt : t < ks.length := by rw [ks_len]; omega
    have ih := rounds_rv (v := v) h n (t + 1) (by omega)
    rw [List.drop_eq_getElem_cons hlt, rounds_step W _ t _ _ h]
    have hk : ks[t] = ks.getD t 0 := by rw [List.getD_eq_getElem?_getD, List.getElem?_eq_getElem hlt]; rfl
    rw [hk]
    have e1 : t + (n + 1) = t + 1 + n := by omega
    rw [e1, ← ih]
    rfl

def itw (ws : List Nat) : Nat → List Nat
  | 0 => ws
  | t + 1 => nextw (itw ws t)
def Wd (ws : List Nat) (t : Nat) : Nat := (itw ws t).getD 0 0

theorem nextw_len {l : List Nat} (h : l.length = 16) : (nextw l).length = 16 := by
  unfold nextw
  rw [List.length_append, List.length_drop, h]
  rfl
theorem itw_len {ws : List Nat} (h : ws.length = 16) : ∀ t, (itw ws t).length = 16
  | 0 => h
  | t + 1 => nextw_len (itw_len h t)
theorem nextw_get {l : List Nat} (h : l.length = 16) {j : Nat} (hj : j < 15) : (nextw l).getD j 0 = l.getD (j + 1) 0 := by
  unfold nextw
  rw [List.getD_eq_getElem?_getD, List.getElem?_append_left (by rw [List.length_drop, h]; omega), List.getElem?_drop, List.getD_eq_getElem?_getD, Nat.add_comm]
theorem last_of (l : List Nat) (z : Nat) (h : l.length = 16) : (l.drop 1 ++ [z]).getD 15 0 = z := by
  simp [List.getD_eq_getElem?_getD, h]
theorem nextw_last {l : List Nat} (h : l.length = 16) : (nextw l).getD 15 0 = (l.getD 0 0 + s0 (l.getD 1 0) + l.getD 9 0 + s1 (l.getD 14 0)) % 4294967296 := last_of l _ h
theorem itw_get {ws : List Nat} (h : ws.length = 16) : ∀ (j t : Nat), j < 16 → (itw ws t).getD j 0 = Wd ws (t + j)
  | 0, _, _ => rfl
  | j + 1, t, hj => by
    have := itw_get h j (t + 1) (by omega)
    rw [show t + (j + 1) = t + 1 + j by omega, ← this]
    exact (nextw_get (itw_len h t) (by omega)).symm
theorem win_range (W : Nat → Nat) (t : Nat) : win W t = (List.range 16).map fun j => W (t + j) := rfl
theorem itw_win {ws : List Nat} (h : ws.length = 16) (t : Nat) : itw ws t = win (Wd ws) t := by
  rw [win_range]
  apply List.ext_getElem
  · rw [itw_len h]; simp
  · intro j h1 h2
    rw [itw_len h] at h1
    have := itw_get h j t h1
    rw [List.getD_eq_getElem?_getD, List.getElem?_eq_getElem (by rw [itw_len h]; exact h1)] at this
    simpa using this
theorem wd_sched {ws : List Nat} (h : ws.length = 16) (hs : ∀ x ∈ ws, x < 4294967296) : Sched (Wd ws) := by
  have next : ∀ t, Wd ws (t + 16) = (Wd ws t + s0 (Wd ws (t + 1)) + Wd ws (t + 9) + s1 (Wd ws (t + 14))) % 4294967296 := by
    intro t
    have := itw_get h 15 (t + 1) (by decide)
    rw [show t + 16 = t + 1 + 15 by omega, ← this]
    show (nextw (itw ws t)).getD 15 0 = _
    rw [nextw_last (itw_len h t), itw_get h 0 t (by decide), itw_get h 1 t (by decide), itw_get h 9 t (by decide), itw_get h 14 t (by decide), Nat.add_zero]
  refine ⟨next, fun t => ?_⟩
  by_cases ht : t < 16
  · have := itw_get h t 0 ht
    rw [Nat.zero_add] at this
    rw [← this]
    show ws.getD t 0 < _
    rw [List.getD_eq_getElem?_getD, List.getElem?_eq_getElem (by omega)]
    exact hs _ (List.getElem_mem (by omega))
  · obtain ⟨u, rfl⟩ : ∃ u, t = u + 16 := ⟨t - 16, by omega⟩
    rw [next]
    exact Nat.mod_lt _ (by decide)
theorem words_len : ∀ (n : Nat) (l : List UInt8), (words n l).length = n
  | 0, _ => rfl
  | n + 1, l => by simp [words, words_len n]
theorem be_lt : ∀ (l : List UInt8) (d m : Nat), d < m → l.foldl (fun n b => n * 256 + b.toNat) d < m * 256 ^ l.length
  | [], d, m, h => by simpa using h
  | b :: l, d, m, h => by
    have hb := b.toNat_lt
    have := be_lt l (d * 256 + b.toNat) (m * 256) (by omega)
    simp only [List.foldl_cons, List.length_cons, Nat.pow_succ]
    calc _ < m * 256 * 256 ^ l.length := this
      _ = m * (256 ^ l.length * 256) := by rw [Nat.mul_assoc, Nat.mul_comm 256]
theorem be4_lt {l : List UInt8} (h : l.length ≤ 4) : be l < 4294967296 := by
  have := be_lt l 0 1 (by decide)
  refine Nat.lt_of_lt_of_le this ?_
  rw [Nat.one_mul]
  exact Nat.le_trans (Nat.pow_le_pow_right (by decide) h) (by decide)
theorem words_lt : ∀ (n : Nat) (l : List UInt8), ∀ x ∈ words n l, x < 4294967296
  | 0, _, x, h => by simp [words] at h
  | n + 1, l, x, h => by
    simp only [words, List.mem_cons] at h
    rcases h with rfl | h
    · exact be4_lt (by rw [List.length_take]; omega)
    · exact words_lt n _ x h

def blockW (b : List UInt8) : Nat → Nat := Wd (words 16 b)
theorem blockW_sched (b : List UInt8) : Sched (blockW b) := wd_sched (words_len _ _) (words_lt _ _)
theorem press_rv (v : V) (b : List UInt8) : press v b = v.plus (rv (blockW b) v 64) := by
  unfold press
  have := rounds_rv (v := v) (blockW_sched b) 64 0 rfl
  have e : words 16 b = win (blockW b) 0 := itw_win (words_len _ _) 0
  rw [e]
  rw [List.drop_zero, Nat.zero_add] at this
  rw [← this]
  rfl
theorem words_get : ∀ (n : Nat) (l : List UInt8) (i : Nat), i < n → (words n l).getD i 0 = be ((l.drop (4 * i)).take 4)
  | n + 1, l, 0, _ => rfl
  | n + 1, l, i + 1, h => by
    have := words_get n (l.drop 4) i (by omega)
    show (words n (l.drop 4)).getD i 0 = _
    rw [this, List.drop_drop]
    congr 3
    omega
theorem rv_ok {W : Nat → Nat} {v : V} (h : v.ok) : ∀ t, (rv W v t).ok
  | 0 => h
  | t + 1 => round_ok (rv_ok h t)
theorem plus_ok (v w : V) : (v.plus w).ok := ⟨Nat.mod_lt _ (by decide), Nat.mod_lt _ (by decide), Nat.mod_lt _ (by decide), Nat.mod_lt _ (by decide), Nat.mod_lt _ (by decide), Nat.mod_lt _ (by decide), Nat.mod_lt _ (by decide), Nat.mod_lt _ (by decide)⟩
theorem v0_ok : v0.ok := by unfold V.ok v0; decide
end Go.Sha
