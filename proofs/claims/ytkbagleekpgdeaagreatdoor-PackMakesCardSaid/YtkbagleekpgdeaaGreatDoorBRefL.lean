/- What the references reckon, in the words of the plain laws. -/
import Derived.Test.YtkbagleekpgdeaaGreatDoorBShaR
import Derived.Test.YtkbagleekpgdeaaGreatDoorBCha
namespace Go.Sha
open Go.Lg

theorem rr_ref {x n : Nat} (hx : x < 4294967296) (hn : n ≤ 32) : (x / 2 ^ n + x * 2 ^ (32 - n) % 4294967296) % 4294967296 = rr x n := Nat.mod_eq_of_lt (rr_lt hx hn)
theorem tt_ref (v : V) (k w : Nat) : ((((v.h + S1 v.e) % 4294967296 + ch v.e v.f v.g) % 4294967296 + k) % 4294967296 + w) % 4294967296 = tt v k w := by
  unfold tt
  generalize S1 v.e = a
  generalize ch v.e v.f v.g = b
  generalize v.h = h
  omega
theorem grow_ref (a b c d : Nat) : (((a + b) % 4294967296 + c) % 4294967296 + d) % 4294967296 = (a + b + c + d) % 4294967296 := by omega
theorem round_list (v : V) (k w : Nat) : (round v k w).list = [(tt v k w + uu v) % 4294967296, v.a, v.b, v.c, (v.d + tt v k w) % 4294967296, v.e, v.f, v.g] := rfl

/-- A block's words as the reference grows them: the first m. -/
def wpre (W : Nat → Nat) (m : Nat) : List Nat := (List.range m).map W
theorem wpre_len (W : Nat → Nat) (m : Nat) : (wpre W m).length = m := by simp [wpre]
theorem wpre_get (W : Nat → Nat) {m i : Nat} (h : i < m) : (wpre W m).getD i 0 = W i := by simp [wpre, List.getD_eq_getElem?_getD, h]
theorem wpre_succ (W : Nat → Nat) (m : Nat) : wpre W (m + 1) = wpre W m ++ [W m] := by simp [wpre, List.range_succ]
theorem wpre_next {W : Nat → Nat} (h : Sched W) {m : Nat} (hm : 16 ≤ m) : (W (m - 16) + s0 (W (m - 15)) + W (m - 7) + s1 (W (m - 2))) % 4294967296 = W m := by
  have := h.next (m - 16)
  rw [show m - 16 + 16 = m by omega, show m - 16 + 1 = m - 15 by omega, show m - 16 + 9 = m - 7 by omega, show m - 16 + 14 = m - 2 by omega] at this
  exact this.symm

/-- A word out of the bytes so far. -/
def beAt (b : List UInt8) (i k : Nat) : Nat := be ((b.drop i).take k)
theorem be_snoc' (l : List UInt8) (b : UInt8) : be (l ++ [b]) = be l * 256 + b.toNat := by simp [be]
theorem beAt_zero (b : List UInt8) (i : Nat) : beAt b i 0 = 0 := by simp [beAt, be]
theorem beAt_succ (b : List UInt8) {i k : Nat} (h : i + k < b.length) : beAt b i (k + 1) = beAt b i k * 256 + (b.getD (i + k) 0).toNat := by
  unfold beAt
  have : (b.drop i)[k]? = some (b.getD (i + k) 0) := by
    rw [List.getElem?_drop, List.getD_eq_getElem?_getD, List.getElem?_eq_getElem h]; rfl
  rw [List.take_add_one, this]
  exact be_snoc' _ _
theorem beAt_lt (b : List UInt8) {i k : Nat} (h : k ≤ 3) : beAt b i k < 16777216 := by
  have hb := be_lt ((b.drop i).take k) 0 1 (by decide)
  refine Nat.lt_of_lt_of_le hb ?_
  rw [Nat.one_mul]
  exact Nat.le_trans (Nat.pow_le_pow_right (by decide) (show _ ≤ 3 by rw [List.length_take]; omega)) (by decide)
theorem beAt_word (b : List UInt8) {j : Nat} (h : j < 16) : beAt b (4 * j) 4 = blockW b j := (blockW_word h).symm

/-- The end that is laid behind a text, its bytes of length from behind. -/
def endAt (m z i : Nat) : List UInt8 := 128 :: (List.replicate (z + 8 - i) 0 ++ (tail8 m).drop (8 - i))
theorem tail8_get (m : Nat) {j : Nat} (h : j < 8) : (tail8 m)[j]? = some (UInt8.ofNat (m / 2 ^ (56 - 8 * j))) := by simp [tail8, h]
theorem tail8_len (m : Nat) : (tail8 m).length = 8 := by simp [tail8]
theorem endAt_len (m z : Nat) {i : Nat} (h : i ≤ 8) : (endAt m z i).length = z + 9 := by
  simp only [endAt, List.length_cons, List.length_append, List.length_replicate, List.length_drop, tail8_len]; omega
theorem endAt_set (m z : Nat) {i : Nat} (h : i < 8) : (endAt m z i).set (z + 8 - i) (UInt8.ofNat (m / 2 ^ (8 * i))) = endAt m z (i + 1) := by
  unfold endAt
  have e1 : z + 8 - i = (z + 8 - (i + 1)) + 1 := by omega
  rw [e1, List.set_cons_succ, List.replicate_succ', List.append_assoc, List.set_append_right _ _ (by simp), List.length_replicate, Nat.sub_self]
  rw [show [(0 : UInt8)] ++ (tail8 m).drop (8 - i) = 0 :: (tail8 m).drop (8 - i) from rfl, List.set_cons_zero]
  have hlt : 8 - (i + 1) < (tail8 m).length := by rw [tail8_len]; omega
  rw [List.drop_eq_getElem_cons hlt]
  have hg := tail8_get m (show 8 - (i + 1) < 8 by omega)
  rw [List.getElem?_eq_getElem hlt] at hg
  rw [Option.some.inj hg, show 56 - 8 * (8 - (i + 1)) = 8 * i by omega, show 8 - (i + 1) + 1 = 8 - i by omega]
theorem endAt_first (m z : Nat) : (List.replicate (z + 9) (0 : UInt8)).set 0 128 = endAt m z 0 := by
  rw [show z + 9 = (z + 8) + 1 by omega, List.replicate_succ, List.set_cons_zero]
  simp [endAt, tail8]
theorem endAt_pad (n : Nat) : endAt (n * 8) ((119 - n % 64) % 64) 8 = pad n := by
  unfold endAt pad
  rw [Nat.add_sub_cancel, Nat.sub_self, List.drop_zero]

/-- Keys, padded. -/
def padB (k : List UInt8) (y : UInt8) (i : Nat) : UInt8 := k.getD i 0 ^^^ y
theorem padB_all {k : List UInt8} (y : UInt8) (h : k.length ≤ 64) : (List.range 64).map (padB k y) = (k ++ List.replicate (64 - k.length) 0).map (· ^^^ y) := by
  apply List.ext_getElem?
  intro i
  by_cases hi : i < 64
  · simp only [List.getElem?_map, List.getElem?_range hi, Option.map_some, padB]
    by_cases h2 : i < k.length
    · rw [List.getElem?_append_left h2, List.getElem?_eq_getElem h2, List.getD_eq_getElem?_getD, List.getElem?_eq_getElem h2]; rfl
    · rw [List.getElem?_append_right (by omega), List.getElem?_replicate, if_pos (by omega), List.getD_eq_getElem?_getD, List.getElem?_eq_none (by omega)]; rfl
  · rw [List.getElem?_eq_none (by simp; omega), List.getElem?_eq_none (by simp; omega)]

/-- A half of a quarter round. -/
def hq (s : List Nat) (a b c d n m : Nat) : List Nat :=
  let s1 := s.set a (add (s.getD a 0) (s.getD b 0))
  let s2 := s1.set d (rl (s1.getD d 0 ^^^ s1.getD a 0) n)
  let s3 := s2.set c (add (s2.getD c 0) (s2.getD d 0))
  s3.set b (rl (s3.getD b 0 ^^^ s3.getD c 0) m)
theorem getD_set_ne {s : List Nat} {i j x : Nat} (h : i ≠ j) : (s.set i x).getD j 0 = s.getD j 0 := by
  rw [List.getD_eq_getElem?_getD, List.getElem?_set_ne h, List.getD_eq_getElem?_getD]
theorem getD_set_eq {s : List Nat} {i x : Nat} (h : i < s.length) : (s.set i x).getD i 0 = x := by
  rw [List.getD_eq_getElem?_getD, List.getElem?_set_self h]; rfl
structure Apart (n a b c d : Nat) : Prop where
  ab : a ≠ b
  ac : a ≠ c
  ad : a ≠ d
  bc : b ≠ c
  bd : b ≠ d
  cd : c ≠ d
  la : a < n
  lb : b < n
  lc : c < n
  ld : d < n
theorem hq_is {s : List Nat} {a b c d n m : Nat} (h : Apart s.length a b c d) :
    ∃ x y z w, hq s a b c d n m = (((s.set a x).set d y).set c z).set b w ∧ x = add (s.getD a 0) (s.getD b 0) ∧ y = rl (s.getD d 0 ^^^ x) n ∧ z = add (s.getD c 0) y ∧ w = rl (s.getD b 0 ^^^ z) m := by
  obtain ⟨ab, ac, ad, bc, bd, cd, la, lb, lc, ld⟩ := h
  refine ⟨_, _, _, _, rfl, rfl, ?_, ?_, ?_⟩
  · rw [getD_set_ne ad, getD_set_eq la]
  · simp only [getD_set_ne ad, getD_set_eq la, getD_set_ne cd.symm, getD_set_ne ac]
    rw [getD_set_eq (by simp [ld])]
  · simp only [getD_set_ne ad, getD_set_eq la, getD_set_ne cd.symm, getD_set_ne ac, getD_set_ne bc.symm, getD_set_ne bd.symm, getD_set_ne ab]
    rw [getD_set_eq (by simp [lc]), getD_set_eq (by simp [ld])]
theorem hq_twice {s : List Nat} {a b c d : Nat} (h : Apart s.length a b c d) : hq (hq s a b c d 16 12) a b c d 8 7 = turn s a b c d := by
  obtain ⟨x, y, z, w, e, hx, hy, hz, hw⟩ := hq_is (n := 16) (m := 12) h
  rw [e]
  have h' : Apart ((((s.set a x).set d y).set c z).set b w).length a b c d := by simpa using h
  obtain ⟨x2, y2, z2, w2, e2, hx2, hy2, hz2, hw2⟩ := hq_is (n := 8) (m := 7) h'
  rw [e2]
  obtain ⟨ab, ac, ad, bc, bd, cd, la, lb, lc, ld⟩ := h
  have ga : ((((s.set a x).set d y).set c z).set b w).getD a 0 = x := by rw [getD_set_ne ab.symm, getD_set_ne ac.symm, getD_set_ne ad.symm, getD_set_eq la]
  have gb : ((((s.set a x).set d y).set c z).set b w).getD b 0 = w := by rw [getD_set_eq (by simp [lb])]
  have gc : ((((s.set a x).set d y).set c z).set b w).getD c 0 = z := by rw [getD_set_ne bc, getD_set_eq (by simp [lc])]
  have gd : ((((s.set a x).set d y).set c z).set b w).getD d 0 = y := by rw [getD_set_ne bd, getD_set_ne cd, getD_set_eq (by simp [ld])]
  rw [ga, gb] at hx2
  rw [gd] at hy2
  rw [gc] at hz2
  rw [gb] at hw2
  have hq : quarter (s.getD a 0) (s.getD b 0) (s.getD c 0) (s.getD d 0) = (x2, w2, z2, y2) := by
    rw [hw2, hz2, hy2, hx2, hw, hz, hy, hx]; rfl
  unfold turn
  rw [hq]
  simp only
  apply List.ext_getElem?
  intro j
  simp only [List.getElem?_set, List.length_set]
  by_cases ja : a = j
  · subst ja; simp [ab.symm, ac.symm, ad.symm]
  by_cases jb : b = j
  · subst jb; simp [bc.symm, bd.symm]
  by_cases jc : c = j
  · subst jc; simp [cd.symm, bc]
  by_cases jd : d = j
  · subst jd; simp [cd, bd]
  simp [ja, jb, jc, jd]

end Go.Sha
