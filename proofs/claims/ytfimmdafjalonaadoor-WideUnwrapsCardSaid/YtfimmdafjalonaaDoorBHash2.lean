/- What functions of the given program do, one after the other, told by that layer. -/
import Derived.Test.YtfimmdafjalonaaDoorBHash1
namespace Go.Proofs.D
open Go.Lg Go.Sha
set_option maxRecDepth 100000

/-- What a hasher's block holds. -/
def hc (vl : List Nat) (r : List UInt8) (h t : Nat) : List Value := u32s vl ++ (byteCells r ++ [.int .i64 (h : Int), .int .u64 (t : Int)])
abbrev hs (p : Nat) (vl : List Nat) (r : List UInt8) (h t : Nat) : Nat × Obj := (p, cel (hc vl r h t) 147)
def KsIn (S : Ents) : Prop := ∃ l e fz, (0, cel l e fz) ∈ S ∧ ∀ i, i < 64 → l[i]? = some (Value.int .u32 (ks.getD i 0 : Nat))

section
variable {vl : List Nat} {r : List UInt8} {h t o : Nat}
theorem hc_len (hv : vl.length = 8) (hr : r.length = 64) : (hc vl r h t).length = 74 := by
  unfold hc
  simp only [List.length_append, u32s_length, byteCells_length, List.length_cons, List.length_nil]
  omega
theorem hc_v {j : Nat} (hv : vl.length = 8) (hj : j < 8) (ho : o = j) : (hc vl r h t)[o]? = some (Value.int .u32 (vl.getD j 0 : Nat)) := by
  subst ho
  unfold hc
  rw [List.getElem?_append_left (by rw [u32s_length]; omega)]
  simp [u32s, hv, hj]
theorem hc_rest {i : Nat} (hv : vl.length = 8) (hr : r.length = 64) (hi : i < 64) (ho : o = 8 + i) : (hc vl r h t)[o]? = some (Value.int .u8 ((r.getD i 0).toNat : Nat)) := by
  subst ho
  unfold hc
  rw [List.getElem?_append_right (by rw [u32s_length]; omega), u32s_length, hv, Nat.add_sub_cancel_left, List.getElem?_append_left (by rw [byteCells_length]; omega)]
  simp [byteCells, hr, hi]
theorem hc_have (hv : vl.length = 8) (hr : r.length = 64) (ho : o = 72) : (hc vl r h t)[o]? = some (Value.int .i64 (h : Int)) := by
  subst ho
  unfold hc
  rw [List.getElem?_append_right (by rw [u32s_length]; omega), u32s_length, hv, List.getElem?_append_right (by rw [byteCells_length]; omega), byteCells_length, hr]
  rfl
theorem hc_total (hv : vl.length = 8) (hr : r.length = 64) (ho : o = 73) : (hc vl r h t)[o]? = some (Value.int .u64 (t : Int)) := by
  subst ho
  unfold hc
  rw [List.getElem?_append_right (by rw [u32s_length]; omega), u32s_length, hv, List.getElem?_append_right (by rw [byteCells_length]; omega), byteCells_length, hr]
  rfl
theorem wr_left {A C X : List Value} (h : o + X.length ≤ A.length) : wr (A ++ C) o X = wr A o X ++ C := by
  unfold wr
  rw [List.take_append_of_le_length (by omega), List.drop_append_of_le_length (by omega)]
  simp
theorem wr_right {A C X : List Value} (h : A.length ≤ o) : wr (A ++ C) o X = A ++ wr C (o - A.length) X := by
  unfold wr
  rw [List.take_append, List.drop_append, List.take_of_length_le (by omega), List.drop_of_length_le (by omega)]
  simp only [List.nil_append, List.append_assoc]
  rw [show o + X.length - A.length = o - A.length + X.length by omega]
theorem hc_set_v {j x : Nat} (hv : vl.length = 8) (hj : j < 8) (ho : o = j) : wr (hc vl r h t) o (Value.int .u32 (x : Int)).cells.toList = hc (vl.set j x) r h t := by
  unfold hc
  rw [wr_left (by subst ho; rw [u32s_length, hv]; show o + 1 ≤ 8; omega), u32s_set (by omega) ho]
theorem hc_set_have {x : Nat} (hv : vl.length = 8) (hr : r.length = 64) (ho : o = 72) : wr (hc vl r h t) o (Value.int .i64 (x : Int)).cells.toList = hc vl r x t := by
  subst ho
  unfold hc
  rw [wr_right (by rw [u32s_length]; omega), wr_right (by rw [u32s_length, byteCells_length]; omega), u32s_length, byteCells_length, hv, hr]
  rfl
theorem hc_set_total {x : Nat} (hv : vl.length = 8) (hr : r.length = 64) (ho : o = 73) : wr (hc vl r h t) o (Value.int .u64 (x : Int)).cells.toList = hc vl r h x := by
  subst ho
  unfold hc
  rw [wr_right (by rw [u32s_length]; omega), wr_right (by rw [u32s_length, byteCells_length]; omega), u32s_length, byteCells_length, hv, hr]
  rfl
theorem hc_copy {k : Nat} {b : List UInt8} (hv : vl.length = 8) (hk : k + b.length ≤ r.length) (ho : o = 8 + k) : wr (hc vl r h t) o (byteCells b) = hc vl (r.take k ++ b ++ r.drop (k + b.length)) h t := by
  subst ho
  unfold hc
  rw [wr_right (by rw [u32s_length]; omega), u32s_length, hv, Nat.add_sub_cancel_left, wr_left (by rw [byteCells_length, byteCells_length]; exact hk)]
  congr 2
  unfold wr
  rw [byteCells_length]
  simp [byteCells, List.map_take, List.map_drop]
end

/-- The words of the first i bytes. -/
def wpart (r : List UInt8) (i : Nat) : List Nat := (List.range 16).map fun j => be ((r.drop (4 * j)).take (min 4 (i - 4 * j)))
theorem wpart_len (r : List UInt8) (i : Nat) : (wpart r i).length = 16 := by simp [wpart]
theorem be_snoc (l : List UInt8) (b : UInt8) : be (l ++ [b]) = be l * 256 + b.toNat := by simp [be]
theorem wpart_step {r : List UInt8} {i : Nat} (hr : r.length = 64) (hi : i < 64) : (wpart r i).set (i / 4) ((wpart r i).getD (i / 4) 0 * 256 + (r.getD i 0).toNat) = wpart r (i + 1) := by
  have eg : ∀ k, k < 16 → ∀ m, (wpart r m)[k]? = some (be ((r.drop (4 * k)).take (min 4 (m - 4 * k)))) := fun k hk m => by simp [wpart, hk]
  apply List.ext_getElem?
  intro j
  by_cases hj : j < 16
  · rw [eg j hj (i + 1), List.getElem?_set]
    split
    · rename_i e
      subst e
      rw [if_pos (by rw [wpart_len]; omega), List.getD_eq_getElem?_getD, eg _ hj]
      have e3 : min 4 (i + 1 - 4 * (i / 4)) = min 4 (i - 4 * (i / 4)) + 1 := by omega
      have e4 : (r.drop (4 * (i / 4)))[min 4 (i - 4 * (i / 4))]? = some (r.getD i 0) := by
        rw [List.getElem?_drop, show 4 * (i / 4) + min 4 (i - 4 * (i / 4)) = i by omega, List.getD_eq_getElem?_getD, List.getElem?_eq_getElem (by omega)]
        rfl
      rw [e3, List.take_add_one, e4]
      exact congrArg some (be_snoc _ _).symm
    · rw [eg j hj i, show min 4 (i + 1 - 4 * j) = min 4 (i - 4 * j) by omega]
  · rw [List.getElem?_eq_none (by rw [List.length_set, wpart_len]; omega), List.getElem?_eq_none (by rw [wpart_len]; omega)]
theorem wpart_lt {r : List UInt8} {i : Nat} : (wpart r i).getD (i / 4) 0 < 16777216 := by
  rw [List.getD_eq_getElem?_getD]
  by_cases hj : i / 4 < 16
  · have : (wpart r i)[i / 4]? = some (be ((r.drop (4 * (i / 4))).take (min 4 (i - 4 * (i / 4))))) := by simp [wpart, hj]
    rw [this]
    have hb := be_lt ((r.drop (4 * (i / 4))).take (min 4 (i - 4 * (i / 4)))) 0 1 (by decide)
    refine Nat.lt_of_lt_of_le hb ?_
    rw [Nat.one_mul]
    exact Nat.le_trans (Nat.pow_le_pow_right (by decide) (show _ ≤ 3 by rw [List.length_take]; omega)) (by decide)
  · rw [List.getElem?_eq_none (by rw [wpart_len]; omega)]
    decide
theorem wpart_all (r : List UInt8) : wpart r 64 = words 16 r := by
  apply List.ext_getElem
  · rw [wpart_len, words_len]
  · intro j h1 h2
    have hj : j < 16 := by rw [wpart_len] at h1; exact h1
    have e1 : (wpart r 64)[j]? = some (be ((r.drop (4 * j)).take (min 4 (64 - 4 * j)))) := by simp [wpart, hj]
    rw [List.getElem?_eq_getElem h1] at e1
    rw [Option.some.inj e1]
    have := words_get 16 r j hj
    rw [List.getD_eq_getElem?_getD, List.getElem?_eq_getElem h2] at this
    rw [show min 4 (64 - 4 * j) = 4 by omega]
    exact this.symm
theorem word_term {x : Nat} {b : UInt8} (hx : x < 16777216) : bits .or .u32 (IntKind.u32.wrap ((x : Int) * 2 ^ (min 8 IntKind.u32.bits))) (IntKind.u32.wrap ((b.toNat : Nat) : Int)) = ((x * 256 + b.toNat : Nat) : Int) := by
  have hb := b.toNat_lt
  have e3 : (2 : Int) ^ (min 8 IntKind.u32.bits) = 256 := by decide
  rw [e3, IntKind.wrap_u32, IntKind.wrap_u32]
  rw [show (x : Int) * 256 % 4294967296 = ((x * 256 : Nat) : Int) by omega, show ((b.toNat : Nat) : Int) % 4294967296 = ((b.toNat : Nat) : Int) by omega]
  rw [bits_join .u32 32 (by decide) wraps_u32 8 _ _ (by omega) (by omega) (by omega) (by omega) (by omega) (by omega)]
  omega

/-- The words as they go round. -/
def cw (W : Nat → Nat) (i : Nat) : List Nat := (List.range 16).map fun p => W (max i 16 - 1 - (max i 16 - 1 - p) % 16)
theorem cw_len (W : Nat → Nat) (i : Nat) : (cw W i).length = 16 := by simp [cw]
theorem cw_get {W : Nat → Nat} {i t p : Nat} (h1 : t < max i 16) (h2 : max i 16 ≤ t + 16) (hp : p = t % 16) : (cw W i).getD p 0 = W t := by
  subst hp
  rw [List.getD_eq_getElem?_getD]
  have : (cw W i)[t % 16]? = some (W (max i 16 - 1 - (max i 16 - 1 - t % 16) % 16)) := by simp [cw, Nat.mod_lt]
  rw [this]
  show W _ = W _
  congr 1
  omega
theorem cw_first (W : Nat → Nat) : cw W 0 = win W 0 := by
  rw [win_range]
  unfold cw
  apply List.map_congr_left
  intro p hp
  have := List.mem_range.1 hp
  congr 1
  omega
theorem cw_low {W : Nat → Nat} {i : Nat} (h : i < 16) : cw W i = cw W (i + 1) := by
  unfold cw
  rw [show max i 16 = 16 by omega, show max (i + 1) 16 = 16 by omega]
theorem cw_grow {W : Nat → Nat} (hW : Sched W) {i : Nat} (h : 16 ≤ i) :
    (cw W i).set (i % 16) (((cw W i).getD (i % 16) 0 + ((s0 ((cw W i).getD ((i - 15) % 16) 0) + (cw W i).getD ((i - 7) % 16) 0) % 4294967296 + s1 ((cw W i).getD ((i - 2) % 16) 0)) % 4294967296) % 4294967296) = cw W (i + 1) := by
  rw [cw_get (t := i - 16) (by omega) (by omega) (by omega), cw_get (t := i - 15) (by omega) (by omega) rfl, cw_get (t := i - 7) (by omega) (by omega) rfl, cw_get (t := i - 2) (by omega) (by omega) rfl]
  have e : (W (i - 16) + ((s0 (W (i - 15)) + W (i - 7)) % 4294967296 + s1 (W (i - 2))) % 4294967296) % 4294967296 = W i := by
    have := hW.next (i - 16)
    rw [show i - 16 + 16 = i by omega, show i - 16 + 1 = i - 15 by omega, show i - 16 + 9 = i - 7 by omega, show i - 16 + 14 = i - 2 by omega] at this
    rw [this]
    omega
  rw [e]
  apply List.ext_getElem
  · simp [cw]
  · intro j h1 h2
    have hj : j < 16 := by rw [cw_len] at h2; exact h2
    rw [List.getElem_set]
    have g : ∀ k, (cw W k)[j]? = some (W (max k 16 - 1 - (max k 16 - 1 - j) % 16)) := fun k => by simp [cw, hj]
    have e2 := g (i + 1)
    rw [List.getElem?_eq_getElem h2] at e2
    rw [Option.some.inj e2]
    split
    · rename_i e; congr 1; omega
    · rename_i ne
      have e3 := g i
      rw [List.getElem?_eq_getElem (by rw [cw_len]; exact hj)] at e3
      rw [Option.some.inj e3]
      congr 1; omega
theorem cw_lt {W : Nat → Nat} (hW : Sched W) (i : Nat) : ∀ x ∈ cw W i, x < 4294967296 := by
  intro x hx
  obtain ⟨p, _, rfl⟩ := List.mem_map.1 hx
  exact hW.small _
end Go.Proofs.D
