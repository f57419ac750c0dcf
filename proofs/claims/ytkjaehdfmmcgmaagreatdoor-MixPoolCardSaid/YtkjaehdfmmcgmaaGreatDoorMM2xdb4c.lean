/- What functions of the given program do, one after the other, told by that layer. -/
import Derived.Test.YtkjaehdfmmcgmaaGreatDoorBM1x169c
import Derived.Test.YtkjaehdfmmcgmaaGreatDoorProg
namespace Go.Proofs.D
open Go.Lg Go.Sha
set_option maxRecDepth 100000

abbrev pt (b : Nat) : Value := .pointer (some ⟨b, 0, none⟩)
def u32s (l : List Nat) : List Value := l.map fun (x : Nat) => .int .u32 (x : Int)
theorem u32s_length (l : List Nat) : (u32s l).length = l.length := by simp [u32s]
theorem u32s_part {l : List Nat} {i : Nat} (h : i < l.length) : Lg.partAt Tryz.prog 250 (u32s l) (0 + i * 1) = some (.int .u32 (l.getD i 0 : Nat)) := by
 show (u32s l)[0 + i * 1]? = _
 rw [Nat.zero_add, Nat.mul_one]
 simp [u32s, h]
theorem u32s_set {l : List Nat} {o i x : Nat} (h : i < l.length) (ho : o = i) : wr (u32s l) o (Value.int .u32 (x : Int)).cells.toList = u32s (l.set i x) := by
 subst ho
 unfold wr u32s
 rw [List.set_eq_take_append_cons_drop, if_pos h]
 show List.take o _ ++ [Value.int .u32 (x : Int)] ++ List.drop (o + 1) _ = _
 simp [List.map_take, List.map_drop]
theorem getD_lt {l : List Nat} (h : ∀ x ∈ l, x < 4294967296) (i : Nat) : l.getD i 0 < 4294967296 := by
 rw [List.getD_eq_getElem?_getD]
 cases e : l[i]? with
 | none => simp
 | some x => exact h x (List.mem_of_getElem? e)
theorem u32_add (a b : Nat) : IntKind.u32.wrap ((a : Int) + (b : Int)) = (((a + b) % 4294967296 : Nat) : Int) := by rw [IntKind.wrap_u32]; omega
theorem u32_fdiv (x k : Nat) (e : Nat) (he : min k IntKind.u32.bits = e) : ((x : Int)).fdiv (2 ^ (min k IntKind.u32.bits)) = ((x / 2 ^ e : Nat) : Int) := by
 rw [he, Int.fdiv_eq_ediv_of_nonneg _ (by exact Int.le_of_lt (Int.pow_pos (by decide)))]
 simp
theorem i64_sub {a b : Nat} (h : b ≤ a) (ha : a ≤ 281474976710656) : IntKind.i64.wrap ((a : Int) - (b : Int)) = ((a - b : Nat) : Int) := by rw [i64_id] <;> omega
theorem i64_inc {a : Nat} (ha : a ≤ 281474976710656) : IntKind.i64.wrap ((a : Int) + 1) = ((a + 1 : Nat) : Int) := by rw [i64_id] <;> omega
theorem and15 {i : Nat} (h : i < 9223372036854775808) : bits .and .i64 (i : Int) 15 = ((i % 16 : Nat) : Int) := by
 have := i63_and (a := i) (b := 15) h (by decide)
 rw [Nat.and_two_pow_sub_one_eq_mod i 4] at this
 exact this

theorem s0_term {x : Nat} (hx : x < 4294967296) : bits .xor .u32 (bits .xor .u32 (rr x 7 : Nat) (rr x 18 : Nat)) ((x : Int).fdiv (2 ^ (min 3 IntKind.u32.bits))) = (s0 x : Nat) := by
 rw [Lg.u32_xor (rr_lt hx (by decide)) (rr_lt hx (by decide)), u32_fdiv x 3 3 (by decide), Lg.u32_xor (xor_lt32 (rr_lt hx (by decide)) (rr_lt hx (by decide))) (by omega)]
 rfl
theorem s1_term {x : Nat} (hx : x < 4294967296) : bits .xor .u32 (bits .xor .u32 (rr x 17 : Nat) (rr x 19 : Nat)) ((x : Int).fdiv (2 ^ (min 10 IntKind.u32.bits))) = (s1 x : Nat) := by
 rw [Lg.u32_xor (rr_lt hx (by decide)) (rr_lt hx (by decide)), u32_fdiv x 10 10 (by decide), Lg.u32_xor (xor_lt32 (rr_lt hx (by decide)) (rr_lt hx (by decide))) (by omega)]
 rfl
theorem xor3_term {a b c : Nat} (ha : a < 4294967296) (hb : b < 4294967296) (hc : c < 4294967296) : bits .xor .u32 (bits .xor .u32 (a : Int) (b : Int)) (c : Int) = ((a ^^^ b ^^^ c : Nat) : Int) := by
 rw [Lg.u32_xor ha hb, Lg.u32_xor (xor_lt32 ha hb) hc]
theorem ch_term {e f g : Nat} (he : e < 4294967296) (hf : f < 4294967296) (hg : g < 4294967296) : bits .xor .u32 (g : Int) (bits .and .u32 (e : Int) (bits .xor .u32 (f : Int) (g : Int))) = (ch e f g : Nat) := by
 rw [Lg.u32_xor hf hg, Lg.u32_and he (xor_lt32 hf hg), Lg.u32_xor hg (and_lt32 (xor_lt32 hf hg))]
 rfl
theorem maj_term {a b c : Nat} (ha : a < 4294967296) (hb : b < 4294967296) (hc : c < 4294967296) : bits .or .u32 (bits .and .u32 (a : Int) (b : Int)) (bits .and .u32 (c : Int) (bits .or .u32 (a : Int) (b : Int))) = (maj a b c : Nat) := by
 rw [Lg.u32_or ha hb, Lg.u32_and ha hb, Lg.u32_and hc (or_lt32 ha hb), Lg.u32_or (and_lt32 hb) (and_lt32 (or_lt32 ha hb))]
 rfl

section
variable {B : Nat} {S R : Ents} {Q : Value → Ents → Prop}

theorem rotC {x : Nat} {k : Int} {n m : Nat} (hx : x < 4294967296) (hk : bits .and .u64 (IntKind.u64.wrap k) 31 = (n : Int)) (hnm : n + m = 32) (h : Q (.int .u32 ((x * 2 ^ n % 4294967296 + x / 2 ^ m : Nat) : Int)) S) :
  CallWp Tryz.prog B 223 #[.int .u32 (x : Int), .int .i64 k] Q S := by
 refine Yx (args := [_, _]) Tryz.func223 Tryz.ntmps223 ?_
 refine Yn 1 rfl ?_
 refine Yn 4 rfl ?_
 refine Yg 2 rfl ?_
 refine OWp.g rfl rfl (Gives.shl (m := n) rfl rfl rfl hk) ?_
 refine Ye 3 rfl ?_
 refine OWp.g rfl rfl (Gives.shr (m := m) rfl rfl rfl (by rw [hk, IntKind.wrap_u64]; omega)) ?_
 refine Yz 2 rfl ?_
 refine Wp.ret ⟨trivial, _, ⟨_, _, rfl, rfl, rfl⟩, ?_⟩
 rw [u32_turn hx (by omega) hnm]; exact h
theorem rrC {x j : Nat} {k : Int} (hx : x < 4294967296) (hj : j ≤ 32) (hk : bits .and .u64 (IntKind.u64.wrap k) 31 = ((32 - j : Nat) : Int)) (h : Q (.int .u32 (rr x j : Nat)) S) :
  CallWp Tryz.prog B 223 #[.int .u32 (x : Int), .int .i64 k] Q S := by
 refine rotC (n := 32 - j) (m := j) hx hk (by omega) ?_
 rw [Nat.add_comm]
 exact h

theorem atC {b i : Nat} (hi : i < 9223372036854775808) (h : Q (.pointer (some ⟨b, 0 + (i % 16) * 1, none⟩)) S) : CallWp Tryz.prog B 224 #[pt b, .int .i64 (i : Int)] Q S := by
 refine Yx (args := [_, _]) Tryz.func224 Tryz.ntmps224 ?_
 refine Yn 1 rfl ?_
 refine Yg 4 rfl ?_
 refine OWp.g rfl rfl (Gives.indexAddrArr ((i % 16)) rfl rfl rfl rfl rfl (and15 hi) (by omega)) ?_
 refine Yz 1 rfl ?_
 refine Wp.ret ⟨trivial, _, ⟨_, _, rfl, rfl, rfl⟩, ?_⟩
 exact h
theorem growC {b i : Nat} {c : List Nat} (hB : B ≤ b) (hc : c.length = 16) (hl : ∀ x ∈ c, x < 4294967296) (h1 : 16 ≤ i) (h2 : i < 64)
  (h : Q (.tuple #[]) ((b, cel (u32s (c.set (i % 16) ((c.getD (i % 16) 0 + ((s0 (c.getD ((i - 15) % 16) 0) + c.getD ((i - 7) % 16) 0) % 4294967296 + s1 (c.getD ((i - 2) % 16) 0)) % 4294967296) % 4294967296))) 314) :: R)) :
  CallWp Tryz.prog B 222 #[pt b, .int .i64 (i : Int)] Q ((b, cel (u32s c) 314) :: R) := by
 have x1 := getD_lt hl ((i - 15) % 16)
 have x2 := getD_lt hl ((i - 2) % 16)
 have e15 : IntKind.i64.wrap ((i : Int) - 15) = ((i - 15 : Nat) : Int) := i64_sub (b := 15) (by omega) (by omega)
 have e2 : IntKind.i64.wrap ((i : Int) - 2) = ((i - 2 : Nat) : Int) := i64_sub (b := 2) (by omega) (by omega)
 have e7 : IntKind.i64.wrap ((i : Int) - 7) = ((i - 7 : Nat) : Int) := i64_sub (b := 7) (by omega) (by omega)
 refine Yx (args := [_, _]) Tryz.func222 Tryz.ntmps222 ?_
 refine Wp.seq (Wp.regionDraw [0, 1, 2, 6, 7, 8, 3, 4, 5, 9, 10, 11, 12, 13] [3, 9] rfl (by decide +kernel) ?_)
 refine DWp.evs 6 rfl ?_
 refine DWp.stepGrow rfl rfl rfl (Step.call rfl rfl rfl rfl rfl rfl ((e15.symm ▸ atC (i := i - 15) (by omega) ?_)))
 refine ⟨fun _ hy => hy, ?_⟩
 refine DWp.evs 1 rfl ?_
 refine DWp.load (.head _) rfl rfl rfl rfl rfl rfl (u32s_part (by omega)) ?_
 refine DWp.stepGrow rfl rfl rfl (Step.call rfl rfl rfl rfl rfl rfl ((e2.symm ▸ atC (i := i - 2) (by omega) ?_)))
 refine ⟨fun _ hy => hy, ?_⟩
 refine DWp.evs 1 rfl ?_
 refine DWp.load (.head _) rfl rfl rfl rfl rfl rfl (u32s_part (by omega)) ?_
 refine DWp.evs 2 rfl ?_
 refine DWp.nil ?_
 refine Yg 1 rfl ?_
 refine Yc rfl rfl (rrC (j := 7) x1 (by decide) (by decide +kernel) ?_)
 refine Ye 1 rfl ?_
 refine Yc rfl rfl (rrC (j := 18) x1 (by decide) (by decide +kernel) ?_)
 refine Yz 5 rfl ?_
 refine Wp.weaken (E' := [(6, .int .u32 (s0 (c.getD ((i - 15) % 16) 0) : Nat)), (5, .int .u32 (c.getD ((i - 2) % 16) 0 : Nat)), (0, pt b), (1, .int .i64 (i : Int))]) (.cons' rfl (int_eq (s0_term x1)) (.cons rfl (.cons rfl (.cons rfl (.nil _))))) (fun _ h => h) ?_
 refine Yg 1 rfl ?_
 refine Yc rfl rfl (rrC (j := 17) x2 (by decide) (by decide +kernel) ?_)
 refine Ye 1 rfl ?_
 refine Yc rfl rfl (rrC (j := 19) x2 (by decide) (by decide +kernel) ?_)
 refine Yz 5 rfl ?_
 refine Wp.weaken (E' := [(6, .int .u32 (s0 (c.getD ((i - 15) % 16) 0) : Nat)), (7, .int .u32 (s1 (c.getD ((i - 2) % 16) 0) : Nat)), (0, pt b), (1, .int .i64 (i : Int))]) (.cons rfl (.cons' rfl (int_eq (s1_term x2)) (.cons rfl (.cons rfl (.nil _))))) (fun _ h => h) ?_
 refine Wp.regionDraw [0, 1, 5, 6, 7, 8, 13, 2, 3, 4, 9, 10, 11, 12, 14, 15, 16, 17] [2, 9, 17] rfl (by decide +kernel) ?_
 refine DWp.evs 7 rfl ?_
 refine DWp.stepGrow rfl rfl rfl (Step.call rfl rfl rfl rfl rfl rfl ((atC (i := i) (by omega) ?_)))
 refine ⟨fun _ hy => hy, ?_⟩
 refine DWp.evs 1 rfl ?_
 refine DWp.load (.head _) rfl rfl rfl rfl rfl rfl (u32s_part (by omega)) ?_
 refine DWp.stepGrow rfl rfl rfl (Step.call rfl rfl rfl rfl rfl rfl ((e7.symm ▸ atC (i := i - 7) (by omega) ?_)))
 refine ⟨fun _ hy => hy, ?_⟩
 refine DWp.evs 1 rfl ?_
 refine DWp.load (.head _) rfl rfl rfl rfl rfl rfl (u32s_part (by omega)) ?_
 refine DWp.evs 4 rfl ?_
 refine DWp.stepAll rfl rfl rfl rfl (Step.storeAs 0 (u32s (c.set (i % 16) ((c.getD (i % 16) 0 + ((s0 (c.getD ((i - 15) % 16) 0) + c.getD ((i - 7) % 16) 0) % 4294967296 + s1 (c.getD ((i - 2) % 16) 0)) % 4294967296) % 4294967296))) rfl rfl rfl rfl rfl (by assumption) rfl (Unfz.zero _) rfl (by rw [u32s_length, hc]; show 0 + (i % 16) * 1 + 1 ≤ 16; omega) (by rw [u32_add, u32_add, u32_add]; exact u32s_set (by omega) (by show 0 + (i % 16) * 1 = i % 16; omega)) rfl ?_)
 refine DWp.nil ?_
 refine ⟨trivial, [], rfl, ?_⟩
 exact h
end
end Go.Proofs.D

namespace Go.Proofs.D
open Go.Lg Go.Sha
set_option maxRecDepth 100000

/-- What a hasher's block holds. -/
def hc (vl : List Nat) (r : List UInt8) (h t : Nat) : List Value := u32s vl ++ (byteCells r ++ [.int .i64 (h : Int), .int .u64 (t : Int)])
abbrev hs (p : Nat) (vl : List Nat) (r : List UInt8) (h t : Nat) : Nat × Obj := (p, cel (hc vl r h t) 296)
def KsIn (S : Ents) : Prop := ∃ l e fz, (0, cel l e fz) ∈ S ∧ ∀ i, i < 64 → l[i]? = some (Value.int .u32 (ks.getD i 0 : Nat))

section
variable {vl : List Nat} {r : List UInt8} {h t o : Nat}
theorem hc_len (hv : vl.length = 8) (hr : r.length = 64) : (hc vl r h t).length = 74 := by
 unfold hc
 simp only [List.length_append, u32s_length, byteCells_length, List.length_cons, List.length_nil]
 omega
theorem hc_v {j : Nat} (hv : vl.length = 8) (hj : j < 8) (ho : o = j) : (hc vl r h t)[o]? = some (Value.int .u32 (vl.getD j 0 : Nat)) := by
 subst ho
 unfold hc
 rw [List.getElem?_append_left (by rw [u32s_length]; omega)]
 simp [u32s, hv, hj]
theorem hc_rest {i : Nat} (hv : vl.length = 8) (hr : r.length = 64) (hi : i < 64) (ho : o = 8 + i) : (hc vl r h t)[o]? = some (Value.int .u8 ((r.getD i 0).toNat : Nat)) := by
 subst ho
 unfold hc
 rw [List.getElem?_append_right (by rw [u32s_length]; omega), u32s_length, hv, Nat.add_sub_cancel_left, List.getElem?_append_left (by rw [byteCells_length]; omega)]
 simp [byteCells, hr, hi]
theorem hc_have (hv : vl.length = 8) (hr : r.length = 64) (ho : o = 72) : (hc vl r h t)[o]? = some (Value.int .i64 (h : Int)) := by
 subst ho
 unfold hc
 rw [List.getElem?_append_right (by rw [u32s_length]; omega), u32s_length, hv, List.getElem?_append_right (by rw [byteCells_length]; omega), byteCells_length, hr]
 rfl
theorem hc_total (hv : vl.length = 8) (hr : r.length = 64) (ho : o = 73) : (hc vl r h t)[o]? = some (Value.int .u64 (t : Int)) := by
 subst ho
 unfold hc
 rw [List.getElem?_append_right (by rw [u32s_length]; omega), u32s_length, hv, List.getElem?_append_right (by rw [byteCells_length]; omega), byteCells_length, hr]
 rfl
theorem wr_left {A C X : List Value} (h : o + X.length ≤ A.length) : wr (A ++ C) o X = wr A o X ++ C := by
 unfold wr
 rw [List.take_append_of_le_length (by omega), List.drop_append_of_le_length (by omega)]
 simp
theorem wr_right {A C X : List Value} (h : A.length ≤ o) : wr (A ++ C) o X = A ++ wr C (o - A.length) X := by
 unfold wr
 rw [List.take_append, List.drop_append, List.take_of_length_le (by omega), List.drop_of_length_le (by omega)]
 simp only [List.nil_append, List.append_assoc]
 rw [show o + X.length - A.length = o - A.length + X.length by omega]
theorem hc_set_v {j x : Nat} (hv : vl.length = 8) (hj : j < 8) (ho : o = j) : wr (hc vl r h t) o (Value.int .u32 (x : Int)).cells.toList = hc (vl.set j x) r h t := by
 unfold hc
 rw [wr_left (by subst ho; rw [u32s_length, hv]; show o + 1 ≤ 8; omega), u32s_set (by omega) ho]
theorem hc_set_have {x : Nat} (hv : vl.length = 8) (hr : r.length = 64) (ho : o = 72) : wr (hc vl r h t) o (Value.int .i64 (x : Int)).cells.toList = hc vl r x t := by
 subst ho
 unfold hc
 rw [wr_right (by rw [u32s_length]; omega), wr_right (by rw [u32s_length, byteCells_length]; omega), u32s_length, byteCells_length, hv, hr]
 rfl
theorem hc_set_total {x : Nat} (hv : vl.length = 8) (hr : r.length = 64) (ho : o = 73) : wr (hc vl r h t) o (Value.int .u64 (x : Int)).cells.toList = hc vl r h x := by
 subst ho
 unfold hc
 rw [wr_right (by rw [u32s_length]; omega), wr_right (by rw [u32s_length, byteCells_length]; omega), u32s_length, byteCells_length, hv, hr]
 rfl
theorem hc_copy {k : Nat} {b : List UInt8} (hv : vl.length = 8) (hk : k + b.length ≤ r.length) (ho : o = 8 + k) : wr (hc vl r h t) o (byteCells b) = hc vl (r.take k ++ b ++ r.drop (k + b.length)) h t := by
 subst ho
 unfold hc
 rw [wr_right (by rw [u32s_length]; omega), u32s_length, hv, Nat.add_sub_cancel_left, wr_left (by rw [byteCells_length, byteCells_length]; exact hk)]
 congr 2
 unfold wr
 rw [byteCells_length]
 simp [byteCells, List.map_take, List.map_drop]
end

/-- The words of the first i bytes. -/
def wpart (r : List UInt8) (i : Nat) : List Nat := (List.range 16).map fun j => be ((r.drop (4 * j)).take (min 4 (i - 4 * j)))
theorem wpart_len (r : List UInt8) (i : Nat) : (wpart r i).length = 16 := by simp [wpart]
theorem be_snoc (l : List UInt8) (b : UInt8) : be (l ++ [b]) = be l * 256 + b.toNat := by simp [be]
theorem wpart_step {r : List UInt8} {i : Nat} (hr : r.length = 64) (hi : i < 64) : (wpart r i).set (i / 4) ((wpart r i).getD (i / 4) 0 * 256 + (r.getD i 0).toNat) = wpart r (i + 1) := by
 have eg : ∀ k, k < 16 → ∀ m, (wpart r m)[k]? = some (be ((r.drop (4 * k)).take (min 4 (m - 4 * k)))) := fun k hk m => by simp [wpart, hk]
 apply List.ext_getElem?
 intro j
 by_cases hj : j < 16
 ·rw [eg j hj (i + 1), List.getElem?_set]
  split
  ·rename_i e
   subst e
   rw [if_pos (by rw [wpart_len]; omega), List.getD_eq_getElem?_getD, eg _ hj]
   have e3 : min 4 (i + 1 - 4 * (i / 4)) = min 4 (i - 4 * (i / 4)) + 1 := by omega
   have e4 : (r.drop (4 * (i / 4)))[min 4 (i - 4 * (i / 4))]? = some (r.getD i 0) := by
    rw [List.getElem?_drop, show 4 * (i / 4) + min 4 (i - 4 * (i / 4)) = i by omega, List.getD_eq_getElem?_getD, List.getElem?_eq_getElem (by omega)]
    rfl
   rw [e3, List.take_add_one, e4]
   exact congrArg some (be_snoc _ _).symm
  ·rw [eg j hj i, show min 4 (i + 1 - 4 * j) = min 4 (i - 4 * j) by omega]
 ·rw [List.getElem?_eq_none (by rw [List.length_set, wpart_len]; omega), List.getElem?_eq_none (by rw [wpart_len]; omega)]
theorem wpart_lt {r : List UInt8} {i : Nat} : (wpart r i).getD (i / 4) 0 < 16777216 := by
 rw [List.getD_eq_getElem?_getD]
 by_cases hj : i / 4 < 16
 ·have : (wpart r i)[i / 4]? = some (be ((r.drop (4 * (i / 4))).take (min 4 (i - 4 * (i / 4))))) := by simp [wpart, hj]
  rw [this]
  have hb := be_lt ((r.drop (4 * (i / 4))).take (min 4 (i - 4 * (i / 4)))) 0 1 (by decide)
  refine Nat.lt_of_lt_of_le hb ?_
  rw [Nat.one_mul]
  exact Nat.le_trans (Nat.pow_le_pow_right (by decide) (show _ ≤ 3 by rw [List.length_take]; omega)) (by decide)
 ·rw [List.getElem?_eq_none (by rw [wpart_len]; omega)]
  decide
theorem wpart_all (r : List UInt8) : wpart r 64 = words 16 r := by
 apply List.ext_getElem
 ·rw [wpart_len, words_len]
 ·intro j h1 h2
  have hj : j < 16 := by rw [wpart_len] at h1; exact h1
  have e1 : (wpart r 64)[j]? = some (be ((r.drop (4 * j)).take (min 4 (64 - 4 * j)))) := by simp [wpart, hj]
  rw [List.getElem?_eq_getElem h1] at e1
  rw [Option.some.inj e1]
  have := words_get 16 r j hj
  rw [List.getD_eq_getElem?_getD, List.getElem?_eq_getElem h2] at this
  rw [show min 4 (64 - 4 * j) = 4 by omega]
  exact this.symm
theorem word_term {x : Nat} {b : UInt8} (hx : x < 16777216) : bits .or .u32 (IntKind.u32.wrap ((x : Int) * 2 ^ (min 8 IntKind.u32.bits))) (IntKind.u32.wrap ((b.toNat : Nat) : Int)) = ((x * 256 + b.toNat : Nat) : Int) := by
 have hb := b.toNat_lt
 have e3 : (2 : Int) ^ (min 8 IntKind.u32.bits) = 256 := by decide
 rw [e3, IntKind.wrap_u32, IntKind.wrap_u32]
 rw [show (x : Int) * 256 % 4294967296 = ((x * 256 : Nat) : Int) by omega, show ((b.toNat : Nat) : Int) % 4294967296 = ((b.toNat : Nat) : Int) by omega]
 rw [bits_join .u32 32 (by decide) wraps_u32 8 _ _ (by omega) (by omega) (by omega) (by omega) (by omega) (by omega)]
 omega

/-- The words as they go round. -/
def cw (W : Nat → Nat) (i : Nat) : List Nat := (List.range 16).map fun p => W (max i 16 - 1 - (max i 16 - 1 - p) % 16)
theorem cw_len (W : Nat → Nat) (i : Nat) : (cw W i).length = 16 := by simp [cw]
theorem cw_get {W : Nat → Nat} {i t p : Nat} (h1 : t < max i 16) (h2 : max i 16 ≤ t + 16) (hp : p = t % 16) : (cw W i).getD p 0 = W t := by
 subst hp
 rw [List.getD_eq_getElem?_getD]
 have : (cw W i)[t % 16]? = some (W (max i 16 - 1 - (max i 16 - 1 - t % 16) % 16)) := by simp [cw, Nat.mod_lt]
 rw [this]
 show W _ = W _
 congr 1
 omega
theorem cw_first (W : Nat → Nat) : cw W 0 = win W 0 := by
 rw [win_range]
 unfold cw
 apply List.map_congr_left
 intro p hp
 have := List.mem_range.1 hp
 congr 1
 omega
theorem cw_low {W : Nat → Nat} {i : Nat} (h : i < 16) : cw W i = cw W (i + 1) := by
 unfold cw
 rw [show max i 16 = 16 by omega, show max (i + 1) 16 = 16 by omega]
theorem cw_grow {W : Nat → Nat} (hW : Sched W) {i : Nat} (h : 16 ≤ i) :
  (cw W i).set (i % 16) (((cw W i).getD (i % 16) 0 + ((s0 ((cw W i).getD ((i - 15) % 16) 0) + (cw W i).getD ((i - 7) % 16) 0) % 4294967296 + s1 ((cw W i).getD ((i - 2) % 16) 0)) % 4294967296) % 4294967296) = cw W (i + 1) := by
 rw [cw_get (t := i - 16) (by omega) (by omega) (by omega), cw_get (t := i - 15) (by omega) (by omega) rfl, cw_get (t := i - 7) (by omega) (by omega) rfl, cw_get (t := i - 2) (by omega) (by omega) rfl]
 have e : (W (i - 16) + ((s0 (W (i - 15)) + W (i - 7)) % 4294967296 + s1 (W (i - 2))) % 4294967296) % 4294967296 = W i := by
  have := hW.next (i - 16)
  rw [show i - 16 + 16 = i by omega, show i - 16 + 1 = i - 15 by omega, show i - 16 + 9 = i - 7 by omega, show i - 16 + 14 = i - 2 by omega] at this
  rw [this]
  omega
 rw [e]
 apply List.ext_getElem
 ·simp [cw]
 ·intro j h1 h2
  have hj : j < 16 := by rw [cw_len] at h2; exact h2
  rw [List.getElem_set]
  have g : ∀ k, (cw W k)[j]? = some (W (max k 16 - 1 - (max k 16 - 1 - j) % 16)) := fun k => by simp [cw, hj]
  have e2 := g (i + 1)
  rw [List.getElem?_eq_getElem h2] at e2
  rw [Option.some.inj e2]
  split
  ·rename_i e; congr 1; omega
  ·rename_i ne
   have e3 := g i
   rw [List.getElem?_eq_getElem (by rw [cw_len]; exact hj)] at e3
   rw [Option.some.inj e3]
   congr 1; omega
theorem cw_lt {W : Nat → Nat} (hW : Sched W) (i : Nat) : ∀ x ∈ cw W i, x < 4294967296 := by
 intro x hx
 obtain ⟨p, _, rfl⟩ := List.mem_map.1 hx
 exact hW.small _
end Go.Proofs.D

namespace Go.Proofs.D
open Go.Lg Go.Sha
set_option maxRecDepth 100000

theorem q4 {i : Nat} (h : i ≤ 281474976710656) : IntKind.i64.wrap ((i : Int).tdiv 4) = ((i / 4 : Nat) : Int) := by
 rw [Int.tdiv_eq_ediv_of_nonneg (by omega), i64_id (by omega) (by omega)]; omega
theorem u32s_part0 {l : List Nat} {i : Nat} (h : i < l.length) : Lg.partAt Tryz.prog 250 (u32s l) (i * 1) = some (.int .u32 (l.getD i 0 : Nat)) := by
 show (u32s l)[i * 1]? = _
 rw [Nat.mul_one]
 simp [u32s, h]
theorem t_term {v : V} {k w : Nat} (hv : v.ok) : IntKind.u32.wrap (IntKind.u32.wrap (IntKind.u32.wrap (IntKind.u32.wrap ((v.h : Int) + bits .xor .u32 (bits .xor .u32 (rr v.e 6 : Nat) (rr v.e 11 : Nat)) (rr v.e 25 : Nat)) + bits .xor .u32 (v.g : Int) (bits .and .u32 (v.e : Int) (bits .xor .u32 (v.f : Int) (v.g : Int)))) + (k : Int)) + (w : Int)) = (tt v k w : Nat) := by
 obtain ⟨ha, hb, hc, hd, he, hf, hg, hh⟩ := hv
 rw [xor3_term (rr_lt he (by decide)) (rr_lt he (by decide)) (rr_lt he (by decide)), ch_term he hf hg]
 rw [u32_add, u32_add, u32_add, u32_add]
 unfold tt S1
 generalize rr v.e 6 ^^^ rr v.e 11 ^^^ rr v.e 25 = x
 generalize ch v.e v.f v.g = y
 omega
theorem u_term {v : V} (hv : v.ok) : IntKind.u32.wrap (bits .xor .u32 (bits .xor .u32 (rr v.a 2 : Nat) (rr v.a 13 : Nat)) (rr v.a 22 : Nat) + bits .or .u32 (bits .and .u32 (v.a : Int) (v.b : Int)) (bits .and .u32 (v.c : Int) (bits .or .u32 (v.a : Int) (v.b : Int)))) = (uu v : Nat) := by
 obtain ⟨ha, hb, hc, hd, he, hf, hg, hh⟩ := hv
 rw [xor3_term (rr_lt ha (by decide)) (rr_lt ha (by decide)) (rr_lt ha (by decide)), maj_term ha hb hc, u32_add]
 rfl

/-- Sums, as far as the first i. -/
def pl (l z : List Nat) (i : Nat) : List Nat := (List.zipWith add l z).take i ++ l.drop i
theorem pl_len {l z : List Nat} (hl : l.length = 8) (hz : z.length = 8) (i : Nat) : (pl l z i).length = 8 := by
 unfold pl
 rw [List.length_append, List.length_take, List.length_drop, List.length_zipWith]
 omega
theorem pl_get {l z : List Nat} (hl : l.length = 8) (hz : z.length = 8) {i : Nat} (hi : i < 8) : (pl l z i).getD i 0 = l.getD i 0 := by
 unfold pl
 have e : ((List.zipWith add l z).take i).length = i := by rw [List.length_take, List.length_zipWith]; omega
 rw [List.getD_eq_getElem?_getD, List.getElem?_append_right (by omega), e, Nat.sub_self, List.getElem?_drop, List.getD_eq_getElem?_getD, Nat.add_zero]
theorem pl_set {l z : List Nat} (hl : l.length = 8) (hz : z.length = 8) {i : Nat} (hi : i < 8) : (pl l z i).set i (add (l.getD i 0) (z.getD i 0)) = pl l z (i + 1) := by
 unfold pl
 have e : ((List.zipWith add l z).take i).length = i := by rw [List.length_take, List.length_zipWith]; omega
 rw [List.set_append_right _ _ (by omega), e, Nat.sub_self]
 have ed : l.drop i = l.getD i 0 :: l.drop (i + 1) := by
  rw [List.drop_eq_getElem_cons (by omega), List.getD_eq_getElem?_getD, List.getElem?_eq_getElem (by omega)]; rfl
 rw [ed, List.set_cons_zero, List.take_add_one]
 have eg : (List.zipWith add l z)[i]? = some (add (l.getD i 0) (z.getD i 0)) := by
  rw [List.getElem?_zipWith, List.getD_eq_getElem?_getD, List.getD_eq_getElem?_getD, List.getElem?_eq_getElem (by omega), List.getElem?_eq_getElem (by omega)]; rfl
 rw [eg]
 simp
theorem vlist_len (v : V) : v.list.length = 8 := rfl
theorem pl_all (v w : V) : pl v.list w.list 8 = (v.plus w).list := rfl

section
variable {B : Nat} {S R : Ents} {Q : Value → Ents → Prop}

set_option maxHeartbeats 1000000 in
theorem mixC {v : V} {r : List UInt8} {p h t : Nat} (hB : B ≤ p) (hv : v.ok) (hr : r.length = 64) (hk : KsIn R) (H : Q (.tuple #[]) (hs p (press v r).list r 0 t :: R)) :
  CallWp Tryz.prog B 201 #[pt p] Q (hs p v.list r h t :: R) := by
 obtain ⟨lk, ek, fk, hkm, hkat⟩ := hk
 have hW := blockW_sched r
 have hvl := vlist_len v
 refine Yx (args := [_]) Tryz.func201 Tryz.ntmps201 ?_
 refine Yq ?_
 refine Ya rfl rfl rfl rfl fun Lw hBLw hLLw => ?_
 refine OWp.nil ?_
 refine Wp.seq ?_
 refine Yn 1 rfl ?_
 refine Wp.block ?_
 refine Wp.loopS (α := Nat) (fun i => 64 - i) (fun i => [(17, .int .i64 (i : Int)), (2, pt Lw), (0, pt p)]) (fun i => (Lw, cel (u32s (wpart r i)) 314) :: hs p v.list r h t :: R) (fun i => i ≤ 64) 0 ?_ (.refl _) (Nat.zero_le _) ?_
 ·exact .cons rfl (.cons rfl (.cons rfl (.nil _)))
 intro i hi
 refine Yn 1 rfl ?_
 refine Wp.seq ?_
 refine Wp.cond rfl (fun h1 => ?_) (fun h1 => ?_)
 ·have h1 := of_decide_eq_true h1
  have hlt : i < 64 := by omega
  refine Wp.skip ?_
  refine Wp.seq ?_
  refine Wp.block ?_
  refine Yn 2 rfl ?_
  refine Wp.regionDraw [0, 1, 2, 3, 4, 5, 6, 7, 8, 9, 10, 11, 12, 13, 14, 15, 16] [16] rfl (by decide +kernel) ?_
  refine DWp.evs 4 rfl ?_
  refine DWp.g rfl rfl rfl rfl (Gives.indexAddrArr ((i / 4)) rfl rfl rfl rfl rfl (q4 (by omega)) (by omega)) ?_
  refine DWp.load (.head _) rfl rfl rfl rfl rfl rfl (u32s_part (by rw [wpart_len]; omega)) ?_
  refine DWp.evs 5 rfl ?_
  refine DWp.g rfl rfl rfl rfl (Gives.indexAddrArr (i) rfl rfl rfl rfl rfl rfl (by omega)) ?_
  refine DWp.load (.tail _ (.head _)) rfl rfl rfl rfl rfl rfl (hc_rest hvl hr hlt (by show 0 + 8 + i * 1 = 8 + i; omega)) ?_
  refine DWp.evs 2 rfl ?_
  refine DWp.g rfl rfl rfl rfl (Gives.indexAddrArr ((i / 4)) rfl rfl rfl rfl rfl (q4 (by omega)) (by omega)) ?_
  refine DWp.stepAll rfl rfl rfl rfl (Step.storeAs 0 (u32s (wpart r (i + 1))) rfl rfl rfl rfl rfl (by assumption) rfl (Unfz.zero _) rfl (by rw [u32s_length, wpart_len]; show 0 + (i / 4) * 1 + 1 ≤ 16; omega) (by rw [word_term wpart_lt, ← wpart_step hr hlt]; exact u32s_set (by rw [wpart_len]; omega) (by show 0 + (i / 4) * 1 = i / 4; omega)) rfl ?_)
  refine DWp.nil ?_
  refine Wp.region ?_
  refine Yz 2 rfl ?_
  refine ⟨i + 1, by omega, by omega, ?_, .refl _⟩
  exact .cons' rfl (int_eq (i64_inc (by omega))) (.cons rfl (.cons rfl (.nil _)))
 have h1 := of_decide_eq_false h1
 obtain rfl : i = 64 := by omega
 rw [wpart_all, show words 16 r = win (blockW r) 0 from itw_win (words_len _ _) 0, ← cw_first]
 refine Wp.exit ?_
 refine Wp.seq (Wp.regionDraw [0, 1, 2, 3, 4, 5, 6, 7, 8, 9, 10, 11, 12, 13, 14, 15, 16, 17, 18, 19, 20, 21, 22, 23, 24, 25, 26, 27, 28, 29, 30, 31, 32, 33, 34, 35, 36, 37, 38, 39, 40, 41, 42, 43, 44, 45, 46, 47] [] rfl (by decide +kernel) ?_)
 refine DWp.evs 3 rfl ?_
 refine DWp.g rfl rfl rfl rfl (Gives.indexAddrArr (0) rfl rfl rfl rfl rfl rfl (by decide)) ?_
 refine DWp.load (.tail _ (.head _)) rfl rfl rfl rfl rfl rfl (hc_v hvl (j := 0) (by decide) rfl) ?_
 refine DWp.evs 3 rfl ?_
 refine DWp.g rfl rfl rfl rfl (Gives.indexAddrArr (1) rfl rfl rfl rfl rfl rfl (by decide)) ?_
 refine DWp.load (.tail _ (.head _)) rfl rfl rfl rfl rfl rfl (hc_v hvl (j := 1) (by decide) rfl) ?_
 refine DWp.evs 3 rfl ?_
 refine DWp.g rfl rfl rfl rfl (Gives.indexAddrArr (2) rfl rfl rfl rfl rfl rfl (by decide)) ?_
 refine DWp.load (.tail _ (.head _)) rfl rfl rfl rfl rfl rfl (hc_v hvl (j := 2) (by decide) rfl) ?_
 refine DWp.evs 3 rfl ?_
 refine DWp.g rfl rfl rfl rfl (Gives.indexAddrArr (3) rfl rfl rfl rfl rfl rfl (by decide)) ?_
 refine DWp.load (.tail _ (.head _)) rfl rfl rfl rfl rfl rfl (hc_v hvl (j := 3) (by decide) rfl) ?_
 refine DWp.evs 3 rfl ?_
 refine DWp.g rfl rfl rfl rfl (Gives.indexAddrArr (4) rfl rfl rfl rfl rfl rfl (by decide)) ?_
 refine DWp.load (.tail _ (.head _)) rfl rfl rfl rfl rfl rfl (hc_v hvl (j := 4) (by decide) rfl) ?_
 refine DWp.evs 3 rfl ?_
 refine DWp.g rfl rfl rfl rfl (Gives.indexAddrArr (5) rfl rfl rfl rfl rfl rfl (by decide)) ?_
 refine DWp.load (.tail _ (.head _)) rfl rfl rfl rfl rfl rfl (hc_v hvl (j := 5) (by decide) rfl) ?_
 refine DWp.evs 3 rfl ?_
 refine DWp.g rfl rfl rfl rfl (Gives.indexAddrArr (6) rfl rfl rfl rfl rfl rfl (by decide)) ?_
 refine DWp.load (.tail _ (.head _)) rfl rfl rfl rfl rfl rfl (hc_v hvl (j := 6) (by decide) rfl) ?_
 refine DWp.evs 3 rfl ?_
 refine DWp.g rfl rfl rfl rfl (Gives.indexAddrArr (7) rfl rfl rfl rfl rfl rfl (by decide)) ?_
 refine DWp.load (.tail _ (.head _)) rfl rfl rfl rfl rfl rfl (hc_v hvl (j := 7) (by decide) rfl) ?_
 refine DWp.evs 8 rfl ?_
 refine DWp.nil ?_
 refine Wp.seq ?_
 refine Yn 1 rfl ?_
 refine Wp.block ?_
 refine Wp.loopS (α := Nat) (fun i => 64 - i) (fun i => [(77, .int .i64 (i : Int)), (4, .int .u32 ((rv (blockW r) v i).a : Nat)), (5, .int .u32 ((rv (blockW r) v i).b : Nat)), (6, .int .u32 ((rv (blockW r) v i).c : Nat)), (7, .int .u32 ((rv (blockW r) v i).d : Nat)), (8, .int .u32 ((rv (blockW r) v i).e : Nat)), (9, .int .u32 ((rv (blockW r) v i).f : Nat)), (10, .int .u32 ((rv (blockW r) v i).g : Nat)), (11, .int .u32 ((rv (blockW r) v i).h : Nat)), (2, pt Lw), (0, pt p)]) (fun i => (Lw, cel (u32s (cw (blockW r) i)) 314) :: hs p v.list r h t :: R) (fun i => i ≤ 64) 0 ?_ (.refl _) (Nat.zero_le _) ?_
 ·exact .cons rfl (.cons rfl (.cons rfl (.cons rfl (.cons rfl (.cons rfl (.cons rfl (.cons rfl (.cons rfl (.cons rfl (.cons rfl (.nil _)))))))))))
 intro i hi
 have hvi := rv_ok (W := blockW r) hv i
 have hri : rv (blockW r) v (i + 1) = round (rv (blockW r) v i) (ks.getD i 0) (blockW r i) := rfl
 generalize hy : rv (blockW r) v i = y at hvi hri ⊢
 refine Yn 1 rfl ?_
 refine Wp.seq ?_
 refine Wp.cond rfl (fun h2 => ?_) (fun h2 => ?_)
 ·have h2 := of_decide_eq_true h2
  have hlt : i < 64 := by omega
  refine Wp.skip ?_
  refine Wp.seq ?_
  refine Wp.block ?_
  refine Yn 2 rfl ?_
  refine Wp.seqS (α := Unit) (fun _ => [(12, .int .i64 (i : Int)), (77, .int .i64 (i : Int)), (4, .int .u32 (y.a : Nat)), (5, .int .u32 (y.b : Nat)), (6, .int .u32 (y.c : Nat)), (7, .int .u32 (y.d : Nat)), (8, .int .u32 (y.e : Nat)), (9, .int .u32 (y.f : Nat)), (10, .int .u32 (y.g : Nat)), (11, .int .u32 (y.h : Nat)), (2, pt Lw), (0, pt p)]) (fun _ => (Lw, cel (u32s (cw (blockW r) (i + 1))) 314) :: hs p v.list r h t :: R) (fun _ => True) ?_ ?_
  ·skip
   refine Yn 2 rfl ?_
   refine Wp.cond rfl (fun h3 => ?_) (fun h3 => ?_)
   ·have h3 := of_decide_eq_true h3
    refine Wp.region ?_
    refine Ye 1 rfl ?_
    refine Yc rfl rfl (growC (c := cw (blockW r) i) hBLw (cw_len _ _) (cw_lt hW i) (by omega) (by omega) ?_)
    rw [cw_grow hW (by omega)]
    refine OWp.nil ?_
    exact ⟨(), trivial, .cons rfl (.cons rfl (.cons rfl (.cons rfl (.cons rfl (.cons rfl (.cons rfl (.cons rfl (.cons rfl (.cons rfl (.cons rfl (.cons rfl (.nil _)))))))))))), .refl _⟩
   have h3 := of_decide_eq_false h3
   rw [cw_low (show i < 16 by omega)]
   refine Wp.skip ?_
   exact ⟨(), trivial, .cons rfl (.cons rfl (.cons rfl (.cons rfl (.cons rfl (.cons rfl (.cons rfl (.cons rfl (.cons rfl (.cons rfl (.cons rfl (.cons rfl (.nil _)))))))))))), .refl _⟩
  rintro ⟨⟩ -
  refine Wp.seq (Wp.regionDraw [0, 1, 3, 6, 10, 11, 12, 13, 14, 15, 16, 18, 19, 20, 22, 2, 4, 5, 7, 8, 9, 17, 21, 23, 24, 25, 26, 27] [2, 4, 7, 23] rfl (by decide +kernel) ?_)
  refine DWp.evs 12 rfl ?_
  refine DWp.g rfl rfl rfl rfl (Gives.indexAddrArr (i) rfl rfl rfl rfl rfl rfl (by omega)) ?_
  refine DWp.load (.tail _ (.tail _ hkm)) rfl rfl rfl rfl rfl rfl (by show lk[0 + i * 1]? = _; rw [Nat.zero_add, Nat.mul_one]; exact hkat i hlt) ?_
  refine DWp.evs 1 rfl ?_
  refine DWp.stepGrow rfl rfl rfl (Step.call rfl rfl rfl rfl rfl rfl ((rrC (j := 6) hvi.2.2.2.2.1 (by decide) (by decide +kernel) ?_)))
  refine ⟨fun _ hy => hy, ?_⟩
  refine DWp.stepGrow rfl rfl rfl (Step.call rfl rfl rfl rfl rfl rfl ((rrC (j := 11) hvi.2.2.2.2.1 (by decide) (by decide +kernel) ?_)))
  refine ⟨fun _ hy => hy, ?_⟩
  refine DWp.evs 1 rfl ?_
  refine DWp.stepGrow rfl rfl rfl (Step.call rfl rfl rfl rfl rfl rfl ((rrC (j := 25) hvi.2.2.2.2.1 (by decide) (by decide +kernel) ?_)))
  refine ⟨fun _ hy => hy, ?_⟩
  refine DWp.evs 4 rfl ?_
  refine DWp.stepGrow rfl rfl rfl (Step.call rfl rfl rfl rfl rfl rfl ((atC (i := i) (by omega) ?_)))
  refine ⟨fun _ hy => hy, ?_⟩
  refine DWp.evs 1 rfl ?_
  refine DWp.load (.head _) rfl rfl rfl rfl rfl rfl ((u32s_part (by rw [cw_len]; omega)).trans (by rw [cw_get (t := i) (by omega) (by omega) rfl])) ?_
  refine DWp.evs 2 rfl ?_
  refine DWp.nil ?_
  refine Wp.weaken (E' := [(13, .int .u32 (tt y (ks.getD i 0) (blockW r i) : Nat)), (12, .int .i64 (i : Int)), (77, .int .i64 (i : Int)), (4, .int .u32 (y.a : Nat)), (5, .int .u32 (y.b : Nat)), (6, .int .u32 (y.c : Nat)), (7, .int .u32 (y.d : Nat)), (8, .int .u32 (y.e : Nat)), (9, .int .u32 (y.f : Nat)), (10, .int .u32 (y.g : Nat)), (11, .int .u32 (y.h : Nat)), (2, pt Lw), (0, pt p)]) (.cons' rfl (int_eq (t_term hvi)) (.cons rfl (.cons rfl (.cons rfl (.cons rfl (.cons rfl (.cons rfl (.cons rfl (.cons rfl (.cons rfl (.cons rfl (.cons rfl (.cons rfl (.nil _)))))))))))))) (fun _ h => h) ?_
  refine Yg 1 rfl ?_
  refine Yc rfl rfl (rrC (j := 2) hvi.1 (by decide) (by decide +kernel) ?_)
  refine Ye 1 rfl ?_
  refine Yc rfl rfl (rrC (j := 13) hvi.1 (by decide) (by decide +kernel) ?_)
  refine Ye 2 rfl ?_
  refine Yc rfl rfl (rrC (j := 22) hvi.1 (by decide) (by decide +kernel) ?_)
  refine Yz 12 rfl ?_
  refine Wp.weaken (E' := [(14, .int .u32 (uu y : Nat)), (13, .int .u32 (tt y (ks.getD i 0) (blockW r i) : Nat)), (77, .int .i64 (i : Int)), (4, .int .u32 (y.a : Nat)), (5, .int .u32 (y.b : Nat)), (6, .int .u32 (y.c : Nat)), (7, .int .u32 (y.d : Nat)), (8, .int .u32 (y.e : Nat)), (9, .int .u32 (y.f : Nat)), (10, .int .u32 (y.g : Nat)), (11, .int .u32 (y.h : Nat)), (2, pt Lw), (0, pt p)]) (.cons' rfl (int_eq (u_term hvi)) (.cons rfl (.cons rfl (.cons rfl (.cons rfl (.cons rfl (.cons rfl (.cons rfl (.cons rfl (.cons rfl (.cons rfl (.cons rfl (.cons rfl (.nil _)))))))))))))) (fun _ h => h) ?_
  refine Wp.region ?_
  refine Yz 20 rfl ?_
  refine Wp.region ?_
  refine Yz 2 rfl ?_
  refine ⟨i + 1, by omega, by omega, ?_, .refl _⟩
  rw [hri]
  exact .cons' rfl (int_eq (i64_inc (by omega))) (.cons' rfl (int_eq (u32_add _ _)) (.cons rfl (.cons rfl (.cons rfl (.cons' rfl (int_eq (u32_add _ _)) (.cons rfl (.cons rfl (.cons rfl (.cons rfl (.cons rfl (.nil _)))))))))))
 have h2 := of_decide_eq_false h2
 obtain rfl : i = 64 := by omega
 refine Wp.exit ?_
 refine Wp.seq ?_
 refine Yg 8 rfl ?_
 refine OWp.g rfl rfl (Gives.build rfl rfl) ?_
 refine Yz 1 rfl ?_
 refine Wp.block ?_
 refine Wp.loopS (α := Nat) (fun i => 8 - i) (fun i => [(151, .int .i64 (i : Int)), (150, .agg (u32s y.list).toArray), (0, pt p)]) (fun i => (Lw, cel (u32s (cw (blockW r) 64)) 314) :: hs p (pl v.list y.list i) r h t :: R) (fun i => i ≤ 8) 0 ?_ (.refl _) (Nat.zero_le _) ?_
 ·exact .cons rfl (.cons rfl (.cons rfl (.nil _)))
 intro i hi
 refine Yn 1 rfl ?_
 refine Wp.seq ?_
 refine Wp.cond rfl (fun h4 => ?_) (fun h4 => ?_)
 ·have h4 := of_decide_eq_true h4
  have hlt : i < 8 := by omega
  have hpl := pl_len hvl (vlist_len y) i
  refine Wp.skip ?_
  refine Wp.seq ?_
  refine Wp.block ?_
  refine Yg 1 rfl ?_
  refine OWp.g rfl rfl (Gives.indexArr (i) rfl rfl rfl rfl rfl rfl (by omega) (u32s_part0 (by show i < 8; omega))) ?_
  refine Yz 2 rfl ?_
  refine Wp.regionDraw [0, 1, 2, 3, 4, 5, 6, 7, 8, 9, 10, 11] [11] rfl (by decide +kernel) ?_
  refine DWp.evs 4 rfl ?_
  refine DWp.g rfl rfl rfl rfl (Gives.indexAddrArr (i) rfl rfl rfl rfl rfl rfl (by omega)) ?_
  refine DWp.load (.tail _ (.head _)) rfl rfl rfl rfl rfl rfl ((hc_v hpl hlt (by show 0 + 0 + i * 1 = i; omega)).trans (by rw [pl_get hvl (vlist_len y) hlt])) ?_
  refine DWp.evs 4 rfl ?_
  refine DWp.g rfl rfl rfl rfl (Gives.indexAddrArr (i) rfl rfl rfl rfl rfl rfl (by omega)) ?_
  refine DWp.stepAll rfl rfl rfl rfl (Step.storeAs 1 (hc (pl v.list y.list (i + 1)) r h t) rfl rfl rfl rfl rfl (by assumption) rfl (Unfz.zero _) rfl (by rw [hc_len hpl hr]; show 0 + 0 + i * 1 + 1 ≤ 74; omega) (by rw [u32_add, ← pl_set hvl (vlist_len y) hlt]; exact hc_set_v hpl hlt (by show 0 + 0 + i * 1 = i; omega)) rfl ?_)
  refine DWp.nil ?_
  refine Wp.region ?_
  refine Yz 2 rfl ?_
  refine ⟨i + 1, by omega, by omega, ?_, .refl _⟩
  exact .cons' rfl (int_eq (i64_inc (by omega))) (.cons rfl (.cons rfl (.nil _)))
 have h4 := of_decide_eq_false h4
 obtain rfl : i = 8 := by omega
 rw [pl_all, ← hy, ← press_rv]
 refine Wp.exit ?_
 refine Wp.dropAt 0 rfl ?_
 refine Wp.region ?_
 refine Ye 3 rfl ?_
 refine OWp.step rfl (Step.storeAs 0 (hc (press v r).list r 0 t) rfl rfl rfl rfl rfl (by assumption) rfl (Unfz.zero _) rfl (by rw [hc_len (vlist_len _) hr]; decide) (hc_set_have (x := 0) (vlist_len _) hr rfl) rfl ?_)
 refine OWp.nil ?_
 refine ⟨trivial, [], rfl, ?_⟩
 exact H
end
end Go.Proofs.D
