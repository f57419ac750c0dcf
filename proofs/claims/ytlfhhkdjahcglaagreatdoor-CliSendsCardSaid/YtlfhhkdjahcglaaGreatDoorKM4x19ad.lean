/- What functions of the given program do, one after the other, told by that layer. -/
import Derived.Test.YtlfhhkdjahcglaaGreatDoorKHash5
import Derived.Test.YtlfhhkdjahcglaaGreatDoorLgBld
namespace Go.Proofs.D
open Go.Lg Go.Sha
set_option maxRecDepth 100000

/-- A builder that a call has made: its block and its bytes. -/
def Bd (B b : Nat) (x : List UInt8) (es : Ents) : Prop :=
 B ≤ b ∧ ∃ adr v ys, (adr = Value.pointer none ∨ adr = pt b) ∧ es = (b, cel [adr, v] 212) :: ys ∧ OwnF B 5 v x ys

section
variable {B : Nat} {S R : Ents} {Q : Value → Ents → Prop}

theorem checkC {b : Nat} {adr v : Value} (hB : B ≤ b) (ha : adr = Value.pointer none ∨ adr = pt b) (H : Q (.tuple #[]) ((b, cel [pt b, v] 212) :: R)) :
  CallWp Tryz.prog B 139 #[pt b] Q ((b, cel [adr, v] 212) :: R) := by
 rcases ha with rfl | rfl
 ·skip
  refine Yx (args := [_]) Tryz.func139 Tryz.ntmps139 ?_
  refine Yg 3 rfl ?_
  refine Yl m0 ?_
  refine Yz 1 rfl ?_
  refine Cy rfl ?_
  refine Wp.region ?_
  refine Ye 2 rfl ?_
  refine OWp.gives rfl rfl (Gives.toUnsafe (e := 212) (l := [Value.pointer none, v]) (fz := (0, 0)) rfl rfl rfl rfl rfl (by decide) (Nat.zero_lt_succ 1)) sub1 ?_
  refine OWp.step rfl (Step.noEscape rfl rfl rfl rfl rfl rfl rfl rfl rfl rfl ?_)
  refine OWp.gives rfl rfl (Gives.ofUnsafe (e := 212) (l := [Value.pointer none, v]) (fz := (0, 0)) rfl rfl rfl rfl rfl (by show liesAt _ _ _ (2 / _) _ _ _ = true; decide +kernel)) sub1 ?_
  refine Ye 2 rfl ?_
  refine OWp.step rfl (Step.store 0 rfl rfl rfl rfl rfl hB rfl (Nat.le_of_ble_eq_true rfl) (Unfz.zero _) rfl rfl ?_)
  refine OWp.nil ?_
  refine ⟨trivial, [], rfl, ?_⟩
  exact H
 ·skip
  refine Yx (args := [_]) Tryz.func139 Tryz.ntmps139 ?_
  refine Yg 3 rfl ?_
  refine Yl m0 ?_
  refine Yz 1 rfl ?_
  refine Cn rfl ?_
  refine Yg 3 rfl ?_
  refine Yl m0 ?_
  refine Ye 1 rfl ?_
  refine OWp.g rfl rfl (Gives.neqSame rfl rfl rfl rfl rfl) ?_
  refine OWp.nil ?_
  refine Cn rfl ?_
  refine Wp.skip ?_
  refine ⟨trivial, [], rfl, ?_⟩
  exact H
theorem _root_.Go.Lg.OwnF.form {e : TypeId} {v : Value} {x : List UInt8} {ys : Ents} (h : OwnF B e v x ys) : ∃ q c, v = .slice q x.length c ∧ (q = none ∨ 0 < c) := by
 rcases h with ⟨rfl, rfl, _⟩ | ⟨_, _, _, _, rfl, _, _, _, h, _⟩
 ·exact ⟨_, _, rfl, .inl rfl⟩
 ·exact ⟨_, _, rfl, .inr h⟩

theorem bLenC {b : Nat} {x : List UInt8} {es : Ents} (h : Bd B b x es) (H : Q (.int .i64 (x.length : Int)) (es ++ R)) :
  CallWp Tryz.prog B 96 #[pt b] Q (es ++ R) := by
 obtain ⟨hB, adr, v, ys, ha, rfl, ho⟩ := h
 obtain ⟨q, c, rfl, _⟩ := ho.form
 refine Yx (args := [_]) Tryz.func96 Tryz.ntmps96 ?_
 refine Yn 1 rfl ?_
 refine Yg 3 rfl ?_
 refine Yl m0 ?_
 refine Yz 2 rfl ?_
 refine Wp.ret ⟨trivial, _, ⟨_, _, rfl, rfl, rfl⟩, ?_⟩
 exact H
theorem bWriteC {b : Nat} {x s : List UInt8} {es : Ents} (h : Bd B b x es) (hl : x.length + s.length ≤ 140737488355328) (H : ∀ es', Bd B b (x ++ s) es' → Q (.tuple #[.int .i64 (s.length : Int), .nilIface]) (es' ++ R)) :
  CallWp Tryz.prog B 97 #[pt b, .string (str s)] Q (es ++ R) := by
 obtain ⟨hB, adr, v, ys, ha, rfl, ho⟩ := h
 refine Yx (args := [_, _]) Tryz.func97 Tryz.ntmps97 ?_
 refine Yn 2 rfl ?_
 refine Yg 1 rfl ?_
 refine Yc rfl rfl (checkC hB ha ?_)
 refine OWp.nil ?_
 refine Yg 4 rfl ?_
 refine Yl m0 ?_
 refine Ye 1 rfl ?_
 refine OWp.step rfl (Step.appendF (R := (b, cel [pt b, v] 212) :: R) rfl rfl rfl rfl rfl rfl rfl rfl rfl rfl (fun _ h => h.perm List.perm_middle.symm) ho hl ?_)
 intro v' ys' ho'
 refine OWp.permS List.perm_middle ?_
 obtain ⟨q', c', rfl, _⟩ := ho'.form
 refine Ye 2 rfl ?_
 refine OWp.step rfl (Step.store 0 rfl rfl rfl rfl rfl hB rfl (Nat.le_of_ble_eq_true rfl) (Unfz.zero _) rfl rfl ?_)
 refine OWp.nil ?_
 refine Yn 4 rfl ?_
 refine Wp.ret ⟨trivial, _, ⟨_, _, rfl, rfl, _, _, rfl, rfl, rfl⟩, ?_⟩
 exact H ((b, cel [pt b, .slice q' (x ++ s).length c'] 212) :: ys') ⟨hB, _, _, _, .inr rfl, rfl, ho'⟩
theorem bStringC {b : Nat} {x : List UInt8} {es : Ents} (h : Bd B b x es) (H : ∀ es', Bd B b x es' → Q (.string (str x)) (es' ++ R)) :
  CallWp Tryz.prog B 98 #[pt b] Q (es ++ R) := by
 obtain ⟨hB, adr, v, ys, ha, rfl, ho⟩ := h
 obtain ⟨q, c, rfl, hq⟩ := ho.form
 refine Yx (args := [_]) Tryz.func98 Tryz.ntmps98 ?_
 refine Yn 1 rfl ?_
 refine Wp.seq (Wp.regionDraw [0, 1, 2, 3, 5, 6, 7, 8, 9, 4, 10, 11] [4, 10] rfl (by decide +kernel) ?_)
 refine DWp.evs 3 rfl ?_
 refine Yd m0 ?_
 refine DWp.evs 3 rfl ?_
 refine Yd m0 ?_
 refine DWp.evs 1 rfl ?_
 refine DWp.stepGrow rfl rfl rfl (Step.sliceData rfl rfl rfl rfl hq ?_); refine ⟨fun _ hy => hy, ?_⟩
 refine DWp.stepAll rfl rfl rfl rfl (Step.unsafeStr (R := (b, cel [adr, .slice q x.length c] 212) :: R) rfl rfl rfl rfl rfl rfl rfl (fun _ h => h.perm List.perm_middle.symm) ho ?_)
 intro ys' ho'
 refine DWp.evs 1 rfl ?_
 refine DWp.nil ?_
 refine Wp.weaken (.refl _) (fun _ h => h.perm List.perm_middle) ?_
 refine Wp.ret ⟨trivial, _, ⟨_, _, rfl, rfl, rfl⟩, ?_⟩
 exact H ((b, cel [adr, .slice q x.length c] 212) :: ys') ⟨hB, _, _, _, ha, rfl, ho'⟩
theorem bGrowC {b n : Nat} (hB : B ≤ b) (h0 : 0 < n) (hn : n ≤ 281474976710656) (H : ∀ es', Bd B b [] es' → Q (.tuple #[]) (es' ++ R)) :
  CallWp Tryz.prog B 151 #[pt b, .int .i64 (n : Int)] Q ((b, cel [pt b, .slice none 0 0] 212) :: R) := by
 refine Yx (args := [_, _]) Tryz.func151 Tryz.ntmps151 ?_
 refine Wp.seq (Wp.regionDraw [0, 1, 2, 3, 4, 5, 6, 7, 9, 10, 11, 12, 13, 8, 14, 15] [8] rfl (by decide +kernel) ?_)
 refine DWp.evs 3 rfl ?_
 refine Yd m0 ?_
 refine DWp.g rfl rfl rfl rfl (Gives.cap rfl rfl rfl) ?_
 refine DWp.evs 6 rfl ?_
 refine Yd m0 ?_
 refine DWp.evs 1 rfl ?_
 refine DWp.stepGrow rfl rfl rfl (Step.makeNoZero (k := n) rfl rfl rfl rfl rfl (by rw [i64_id (x := 2 * ((0 : Nat) : Int)) (by omega) (by omega), i64_id (by omega) (by omega)]; omega) rfl rfl rfl rfl rfl rfl hn ?_); intro L cs hBL hLL hc hm; refine ⟨fun _ hy => .tail _ hy, ?_⟩
 refine DWp.g rfl rfl rfl rfl (Gives.sliceSlice (l := 0) (h' := 0) rfl rfl rfl rfl rfl ⟨_, _, rfl, rfl⟩ (by omega) (by omega) (by omega)) ?_
 refine DWp.evs 1 rfl ?_
 refine DWp.nil ?_
 refine Yg 4 rfl ?_
 refine Yl m1 ?_
 refine OWp.step rfl (Step.copyNone rfl rfl rfl rfl rfl rfl ?_)
 refine OWp.nil ?_
 refine Wp.region ?_
 refine Ye 4 rfl ?_
 refine OWp.step rfl (Step.store 1 rfl rfl rfl rfl rfl hB rfl (Nat.le_of_ble_eq_true rfl) (Unfz.zero _) rfl rfl ?_)
 refine OWp.permS (List.Perm.swap _ _ _) ?_
 refine OWp.nil ?_
 refine ⟨trivial, [], rfl, ?_⟩
 exact H [(b, cel [pt b, .slice (some ⟨L, 0, none⟩) 0 cs.length] 212), (L, cel cs 5)] ⟨hB, _, _, _, .inr rfl, rfl, .inr ⟨L, cs.length, cs, (0, 0), rfl, rfl, hBL, Nat.zero_le _, by omega, hm, by simp⟩⟩
theorem bGrowOutC {b n : Nat} (hB : B ≤ b) (h0 : 0 < n) (hn : n ≤ 281474976710656) (H : ∀ es', Bd B b [] es' → Q (.tuple #[]) (es' ++ R)) :
  CallWp Tryz.prog B 113 #[pt b, .int .i64 (n : Int)] Q ((b, cel [.pointer none, .slice none 0 0] 212) :: R) := by
 refine Yx (args := [_, _]) Tryz.func113 Tryz.ntmps113 ?_
 refine Yg 1 rfl ?_
 refine Yc rfl rfl (checkC hB (.inl rfl) ?_)
 refine OWp.nil ?_
 refine Wp.seq ?_
 refine Yn 2 rfl ?_
 refine Ct rfl (by omega) fun cc1 => ?_
 refine Wp.skip ?_
 refine Wp.seq (Wp.regionDraw [0, 1, 2, 3, 4, 5, 6, 7, 8, 9, 10, 11, 12] [] rfl (by decide +kernel) ?_)
 refine DWp.evs 3 rfl ?_
 refine Yd m0 ?_
 refine DWp.g rfl rfl rfl rfl (Gives.cap rfl rfl rfl) ?_
 refine DWp.evs 3 rfl ?_
 refine Yd m0 ?_
 refine DWp.evs 4 rfl ?_
 refine DWp.nil ?_
 refine Cv rfl (by (rw [i64_id] <;> omega)) fun cc2 => ?_
 refine Wp.region ?_
 refine Ye 2 rfl ?_
 refine Yc rfl rfl (bGrowC hB h0 hn ?_)
 intro es' h'
 refine OWp.nil ?_
 refine ⟨trivial, [], rfl, ?_⟩
 exact H es' h'
theorem mulC {n : Nat} (hn : n < 4294967296) (H : Q (.tuple #[.int .u64 0, .int .u64 (n : Int)]) S) :
  CallWp Tryz.prog B 149 #[.int .u64 1, .int .u64 (n : Int)] Q S := by
 have hand : n &&& 4294967295 = n := by rw [Nat.and_two_pow_sub_one_eq_mod n 32]; omega
 have a1 : bits .and .u64 1 4294967295 = 1 := by decide +kernel
 have a0 : bits .and .u64 0 4294967295 = 0 := by decide +kernel
 have an : bits .and .u64 (n : Int) 4294967295 = (n : Int) := by
  have := Go.Lg.u64_and (a := n) (b := 4294967295) (by omega) (by decide)
  rw [hand] at this
  exact this
 have d1 : (1 : Int).fdiv (2 ^ min 32 IntKind.u64.bits) = 0 := by decide +kernel
 have d0 : (0 : Int).fdiv (2 ^ min 32 IntKind.u64.bits) = 0 := by decide +kernel
 have dn : (n : Int).fdiv (2 ^ min 32 IntKind.u64.bits) = 0 := by
  rw [Int.fdiv_eq_ediv_of_nonneg _ (by decide)]
  exact Int.ediv_eq_zero_of_lt (by omega) (by show (n : Int) < 4294967296; omega)
 have w0 : IntKind.u64.wrap 0 = 0 := by decide +kernel
 have wn : IntKind.u64.wrap (n : Int) = (n : Int) := by rw [IntKind.wrap_u64]; omega
 refine Yx (args := [_, _]) Tryz.func149 Tryz.ntmps149 ?_
 refine Yn 2 rfl ?_
 refine Yn 3 rfl ?_
 refine Yn 3 rfl ?_
 refine Yn 3 rfl ?_
 refine Yn 3 rfl ?_
 refine Yn 4 rfl ?_
 refine Yn 7 rfl ?_
 refine Yn 3 rfl ?_
 refine Yn 3 rfl ?_
 refine Yn 6 rfl ?_
 refine Yn 9 rfl ?_
 refine Yn 4 rfl ?_
 refine Wp.ret ⟨trivial, _, ⟨_, _, rfl, rfl, _, _, rfl, rfl, rfl⟩, ?_⟩
 simp only [a1, a0, an, d1, d0, dn, Int.zero_mul, Int.mul_zero, Int.one_mul, w0, wn, Int.add_zero]
 exact H
theorem mul1C {n : Nat} {a b : Int} (hn : n < 4294967296) (ha : a = 1) (hb : b = (n : Int)) (H : Q (.tuple #[.int .u64 0, .int .u64 (n : Int)]) S) :
  CallWp Tryz.prog B 111 #[.int .u64 a, .int .u64 b] Q S := by
 subst ha hb
 refine Yx (args := [_, _]) Tryz.func111 Tryz.ntmps111 ?_
 refine Yn 2 rfl ?_
 refine Wp.seq ?_
 refine Cn rfl ?_
 refine Wp.skip ?_
 refine Yg 2 rfl ?_
 refine Yc rfl rfl (mulC hn ?_)
 refine Yz 5 rfl ?_
 refine Yn 4 rfl ?_
 refine Wp.ret ⟨trivial, _, ⟨_, _, rfl, rfl, _, _, rfl, rfl, rfl⟩, ?_⟩
 exact H
theorem trimLC {l : List UInt8} (hl : l.length ≤ big) (H : Q (.string (str (l.dropWhile (· == 0)))) S) :
  CallWp Tryz.prog B 166 #[.string (str l), .int .u8 0] Q S := by
 refine Yx (args := [_, _]) Tryz.func166 Tryz.ntmps166 ?_
 refine Yn 1 rfl ?_
 refine Wp.seq ?_
 refine Wp.block ?_
 refine Wp.loopS (α := List UInt8) (fun z => z.length) (fun z => [(0, .string (str z)), (1, .int .u8 0)]) (fun _ => S) (fun z => z.length ≤ big ∧ z.dropWhile (· == 0) = l.dropWhile (· == 0)) l ?_ (.refl _) ⟨hl, rfl⟩ ?_
 ·exact .cons rfl (.cons rfl (.nil _))
 rintro z ⟨hz, hd⟩
 have hb : big = 281474976710656 := rfl
 refine Wp.seq ?_
 refine Yg 4 rfl ?_
 refine OWp.part 8 rfl (fun h1 => ?_) (fun h1 => ?_)
 ·have h1 := of_decide_eq_true h1
  obtain ⟨c, z', rfl⟩ : ∃ c z', z = c :: z' := by
   cases z with
   | nil => exact absurd h1 (by simp)
   | cons c z' => exact ⟨c, z', rfl⟩
  refine Ye 1 rfl ?_
  refine OWp.g rfl rfl (Gives.indexStr (b := c) rfl rfl rfl rfl (by simp) rfl) ?_
  refine Yz 3 rfl ?_
  refine Wp.cond rfl (fun h2 => ?_) (fun h2 => ?_)
  ·have h2 := of_decide_eq_true h2
   have hc : c = 0 := UInt8.toNat_inj.1 (by simpa using h2)
   refine Wp.skip ?_
   refine Wp.block ?_
   refine Wp.region ?_
   refine Ye 1 rfl ?_
   refine OWp.g rfl rfl (Gives.sliceStr (l := 1) (h' := (z'.length + 1)) rfl rfl rfl ⟨_, _, rfl, rfl⟩ rfl (by omega) (by simp)) ?_
   refine Yz 1 rfl ?_
   subst hc
   refine ⟨z', by simp, ⟨by simp only [List.length_cons] at hz; omega, by rw [← hd]; simp⟩, .cons' rfl ?_ (.cons rfl (.nil _)), .refl _⟩
   simp
  have h2 := of_decide_eq_false h2
  have hc : ¬ c = 0 := fun e => h2 (by rw [e]; rfl)
  refine Wp.exit ?_
  refine Yn 2 rfl ?_
  refine Wp.ret ⟨trivial, _, ⟨_, _, rfl, rfl, rfl⟩, ?_⟩
  rw [← hd, List.dropWhile_cons_of_neg (by simpa using hc)] at H; exact H
 have h1 := of_decide_eq_false h1
 obtain rfl : z = [] := by
  cases z with
  | nil => rfl
  | cons c z' => exact absurd (by simp) h1
 refine Yz 5 rfl ?_
 refine Cn rfl ?_
 refine Wp.exit ?_
 refine Yn 2 rfl ?_
 refine Wp.ret ⟨trivial, _, ⟨_, _, rfl, rfl, rfl⟩, ?_⟩
 rw [← hd] at H; exact H
theorem trimRC {l : List UInt8} (hl : l.length ≤ big) (H : Q (.string (str (l.reverse.dropWhile (· == 0)).reverse)) S) :
  CallWp Tryz.prog B 167 #[.string (str l), .int .u8 0] Q S := by
 refine Yx (args := [_, _]) Tryz.func167 Tryz.ntmps167 ?_
 refine Yn 1 rfl ?_
 refine Wp.seq ?_
 refine Wp.block ?_
 refine Wp.loopS (α := List UInt8) (fun z => z.length) (fun z => [(0, .string (str z.reverse)), (1, .int .u8 0)]) (fun _ => S) (fun z => z.length ≤ big ∧ z.dropWhile (· == 0) = l.reverse.dropWhile (· == 0)) l.reverse ?_ (.refl _) ⟨by simpa using hl, rfl⟩ ?_
 ·exact .cons (by rw [List.reverse_reverse]; rfl) (.cons rfl (.nil _))
 rintro z ⟨hz, hd⟩
 have hb : big = 281474976710656 := rfl
 refine Wp.seq ?_
 refine Yg 4 rfl ?_
 refine OWp.part 8 rfl (fun h1 => ?_) (fun h1 => ?_)
 ·have h1 := of_decide_eq_true h1
  obtain ⟨c, z', rfl⟩ : ∃ c z', z = c :: z' := by
   cases z with
   | nil => exact absurd h1 (by simp)
   | cons c z' => exact ⟨c, z', rfl⟩
  have e1 : IntKind.i64.wrap (((c :: z').reverse.length : Int) - 1) = (z'.length : Int) := by
   simp only [List.length_cons] at hz
   rw [List.length_reverse, List.length_cons, i64_id (by omega) (by omega)]; omega
  refine Ye 4 rfl ?_
  refine OWp.g rfl rfl (Gives.indexStr (b := c) rfl rfl rfl rfl (by show 0 ≤ IntKind.i64.wrap (((c :: z').reverse.length : Int) - 1); rw [e1]; omega) (by show (c :: z').reverse[(IntKind.i64.wrap (((c :: z').reverse.length : Int) - 1)).toNat]? = _; rw [e1]; simp)) ?_
  refine Yz 3 rfl ?_
  refine Wp.cond rfl (fun h2 => ?_) (fun h2 => ?_)
  ·have h2 := of_decide_eq_true h2
   have hc : c = 0 := UInt8.toNat_inj.1 (by simpa using h2)
   refine Wp.skip ?_
   refine Wp.block ?_
   refine Wp.region ?_
   refine Ye 4 rfl ?_
   refine OWp.g rfl rfl (Gives.sliceStr (l := 0) (h' := z'.length) rfl rfl rfl rfl ⟨_, _, rfl, e1⟩ (by omega) (by simp)) ?_
   refine Yz 1 rfl ?_
   subst hc
   refine ⟨z', by simp, ⟨by simp only [List.length_cons] at hz; omega, by rw [← hd]; simp⟩, .cons' rfl ?_ (.cons rfl (.nil _)), .refl _⟩
   simp
  have h2 := of_decide_eq_false h2
  have hc : ¬ c = 0 := fun e => h2 (by rw [e]; rfl)
  refine Wp.exit ?_
  refine Yn 2 rfl ?_
  refine Wp.ret ⟨trivial, _, ⟨_, _, rfl, rfl, rfl⟩, ?_⟩
  rw [← hd, List.dropWhile_cons_of_neg (by simpa using hc)] at H; exact H
 have h1 := of_decide_eq_false h1
 obtain rfl : z = [] := by
  cases z with
  | nil => rfl
  | cons c z' => exact absurd (by simp) h1
 refine Yz 8 rfl ?_
 refine Cn rfl ?_
 refine Wp.exit ?_
 refine Yn 2 rfl ?_
 refine Wp.ret ⟨trivial, _, ⟨_, _, rfl, rfl, rfl⟩, ?_⟩
 rw [← hd] at H; exact H
end
end Go.Proofs.D

namespace Go.Proofs.D
open Go.Lg Go.Sha
set_option maxRecDepth 100000

def trim (l : List UInt8) : List UInt8 := ((l.reverse.dropWhile (· == 0)).reverse).dropWhile (· == 0)

section
variable {B : Nat} {S R : Ents} {Q : Value → Ents → Prop}

theorem trimC {l : List UInt8} (hl : l.length ≤ big) (H : Q (.string (str (trim l))) S) :
  CallWp Tryz.prog B 137 #[.string (str l), .string (str [0])] Q S := by
 refine Yx (args := [_, _]) Tryz.func137 Tryz.ntmps137 ?_
 refine Yn 1 rfl ?_
 refine Wp.seq ?_
 refine Yg 3 rfl ?_
 refine OWp.part 9 rfl (fun h1 => ?_) (fun h1 => ?_)
 ·have h1 := of_decide_eq_true h1
  refine Yz 3 rfl ?_
  refine Cy rfl ?_
  refine Yn 2 rfl ?_
  refine Wp.ret ⟨trivial, _, ⟨_, _, rfl, rfl, rfl⟩, ?_⟩
  subst h1; exact H
 have h1 := of_decide_eq_false h1
 refine Yz 3 rfl ?_
 refine Ct rfl (by decide) fun cc1 => ?_
 refine Wp.skip ?_
 refine Wp.seq ?_
 refine Yg 4 rfl ?_
 refine Dv 17 rfl (by decide) fun cc2 => ?_
 refine Ye 1 rfl ?_
 refine OWp.g rfl rfl (Gives.indexStr (b := 0) rfl rfl rfl rfl (by decide) rfl) ?_
 refine Yz 2 rfl ?_
 refine Cv rfl (by decide) fun cc3 => ?_
 refine Wp.seq (Wp.regionDraw [0, 1, 2, 4, 5, 3, 6, 7] [3, 6] rfl (by decide +kernel) ?_)
 refine DWp.evs 2 rfl ?_
 refine DWp.g rfl rfl rfl rfl (Gives.indexStr (b := 0) rfl rfl rfl rfl (by decide) rfl) ?_
 refine DWp.evs 1 rfl ?_
 refine DWp.g rfl rfl rfl rfl (Gives.indexStr (b := 0) rfl rfl rfl rfl (by decide) rfl) ?_
 refine DWp.stepGrow rfl rfl rfl (Step.call rfl rfl rfl rfl rfl rfl ((trimRC hl ?_)))
 refine ⟨fun _ hy => hy, ?_⟩
 refine DWp.stepGrow rfl rfl rfl (Step.call rfl rfl rfl rfl rfl rfl ((trimLC (by rw [List.length_reverse]; exact Nat.le_trans (List.dropWhile_sublist _).length_le (by simpa using hl)) ?_)))
 refine ⟨fun _ hy => hy, ?_⟩
 refine DWp.evs 1 rfl ?_
 refine DWp.nil ?_
 refine Wp.ret ⟨trivial, _, ⟨_, _, rfl, rfl, rfl⟩, ?_⟩
 exact H
theorem bWriteEqC {b : Nat} {x y s : List UInt8} {es : Ents} (hy : y = s) (h : Bd B b x es) (hl : x.length + s.length ≤ 140737488355328) (H : ∀ es', Bd B b (x ++ s) es' → Q (.tuple #[.int .i64 (s.length : Int), .nilIface]) (es' ++ R)) :
  CallWp Tryz.prog B 97 #[pt b, .string (str y)] Q (es ++ R) := by
 subst hy; exact bWriteC h hl H

set_option maxHeartbeats 1000000 in
theorem zerosC {n : Nat} (hn : n ≤ 2147483648) (H : Q (.string (str (List.replicate n 0))) S) :
  CallWp Tryz.prog B 73 #[.string (str [0]), .int .i64 (n : Int)] Q S := by
 refine Yx (args := [_, _]) Tryz.func73 Tryz.ntmps73 ?_
 refine Yn 1 rfl ?_
 refine Wp.seq ?_
 refine Yn 1 rfl ?_
 refine Wp.block ?_
 refine Yn 2 rfl ?_
 refine Wp.cond rfl (fun h1 => ?_) (fun h1 => ?_)
 ·have h1 := of_decide_eq_true h1
  obtain rfl : n = 0 := by omega
  refine Yn 1 rfl ?_
  refine Wp.ret ⟨trivial, _, ⟨_, _, rfl, rfl, rfl⟩, ?_⟩
  exact H
 have h1 := of_decide_eq_false h1
 refine Yn 2 rfl ?_
 refine Wp.cond rfl (fun h2 => ?_) (fun h2 => ?_)
 ·have h2 := of_decide_eq_true h2
  obtain rfl : n = 1 := by omega
  refine Yn 2 rfl ?_
  refine Wp.ret ⟨trivial, _, ⟨_, _, rfl, rfl, rfl⟩, ?_⟩
  exact H
 have h2 := of_decide_eq_false h2
 refine Wp.skip ?_
 refine Wp.seq ?_
 refine Yn 2 rfl ?_
 refine Ct rfl (by omega) fun cc1 => ?_
 refine Wp.skip ?_
 refine Yg 5 rfl ?_
 refine Yc rfl rfl (mul1C (n := n) (by omega) (by decide +kernel) (by rw [IntKind.wrap_u64]; omega) ?_)
 refine Yz 5 rfl ?_
 refine Wp.seq ?_
 refine Yg 3 rfl ?_
 refine Dt 31 rfl (by omega) fun cc2 => ?_
 refine Yz 3 rfl ?_
 refine Ct rfl (by omega) fun cc3 => ?_
 refine Wp.skip ?_
 refine Yn 3 rfl ?_
 refine Wp.seq ?_
 refine Yn 3 rfl ?_
 refine Ct rfl (by decide) fun cc4 => ?_
 refine Wp.skip ?_
 refine Wp.seq ?_
 refine Yg 1 rfl ?_
 refine OWp.g rfl rfl (Gives.indexStr (b := 0) rfl rfl rfl rfl (by decide) rfl) ?_
 refine OWp.nil ?_
 refine Wp.block ?_
 refine Wp.seq ?_
 refine Yn 2 rfl ?_
 refine Ct rfl (by decide) fun cc5 => ?_
 refine Yn 2 rfl ?_
 refine Ct rfl (by decide) fun cc6 => ?_
 refine Yn 2 rfl ?_
 refine Ct rfl (by decide) fun cc7 => ?_
 refine Yn 2 rfl ?_
 refine Ct rfl (by decide) fun cc8 => ?_
 refine Wp.region ?_
 refine Yz 2 rfl ?_
 refine Ct rfl (by decide) fun cc9 => ?_
 refine Wp.skip ?_
 refine Yn 2 rfl ?_
 refine Wp.seqS (α := Nat) (fun c => [(0, .string (str [0])), (7, .int .i64 (n : Int)), (8, .int .i64 (c : Int))]) (fun _ => S) (fun c => 0 < c ∧ c ≤ 2147483648) ?_ ?_
 ·skip
  refine Yn 2 rfl ?_
  refine Wp.cond rfl (fun k1 => ?_) (fun k1 => ?_)
  ·have k1 := of_decide_eq_true k1
   refine Yg 2 rfl ?_
   refine OWp.g rfl rfl (Gives.quo rfl rfl rfl (by decide)) ?_
   refine Yz 4 rfl ?_
   refine Yn 2 rfl ?_
   refine Ct rfl (by decide) fun cc10 => ?_
   refine Wp.skip ?_
   exact ⟨8192, by decide, .cons rfl (.cons' rfl (int_eq (i64_id (by omega) (by omega))) (.cons' rfl rfl (.nil _))), .refl _⟩
  have k1 := of_decide_eq_false k1
  refine Wp.skip ?_
  exact ⟨n, by omega, .cons rfl (.cons' rfl (int_eq (i64_id (by omega) (by omega))) (.cons' rfl (int_eq (i64_id (by omega) (by omega))) (.nil _))), .refl _⟩
 rintro c ⟨hc, hc2⟩
 refine Yq ?_
 refine Ya rfl rfl rfl rfl fun L hBL hLL => ?_
 refine OWp.nil ?_
 refine Yg 1 rfl ?_
 refine Yc rfl rfl (bGrowOutC hBL (by omega) (by omega) ?_)
 intro es1 hb1
 refine OWp.nil ?_
 refine Yg 1 rfl ?_
 refine Yc rfl rfl (bWriteC (s := [0]) hb1 (by decide) ?_)
 intro es2 hb2
 refine OWp.nil ?_
 refine Wp.seq ?_
 refine Wp.block ?_
 refine Wp.loopS (α := Nat × Ents) (fun z => n - z.1) (fun z => [(7, .int .i64 (n : Int)), (8, .int .i64 (c : Int)), (9, pt L)]) (fun z => z.2 ++ S) (fun z => 1 ≤ z.1 ∧ z.1 ≤ n ∧ Bd B L (List.replicate z.1 0) z.2) (1, es2) ?_ (.refl _) ⟨by omega, by omega, hb2⟩ ?_
 ·exact .cons rfl (.cons rfl (.cons rfl (.nil _)))
 rintro ⟨k, es⟩ ⟨hk, hkn, hbk⟩
 simp only at hk hkn hbk ⊢
 have hlen : (List.replicate k (0 : UInt8)).length = k := List.length_replicate
 refine Wp.seq ?_
 refine Yq ?_
 refine Yc rfl rfl (bLenC hbk ?_)
 rw [hlen]
 refine Yz 2 rfl ?_
 refine Wp.cond rfl (fun h5 => ?_) (fun h5 => ?_)
 ·have h5 := of_decide_eq_true h5
  have hk5 : k < n := by omega
  refine Wp.skip ?_
  refine Wp.block ?_
  refine Yg 1 rfl ?_
  refine Yc rfl rfl (bLenC hbk ?_)
  rw [hlen]
  refine Ye 1 rfl ?_
  refine Yc rfl rfl (bLenC hbk ?_)
  rw [hlen]
  have e1 : IntKind.i64.wrap ((n : Int) - (k : Int)) = (n : Int) - (k : Int) := by rw [i64_id] <;> omega
  obtain ⟨m, hm, hm0, hmk, hmn⟩ : ∃ m : Nat, (if (c : Int) < (if (k : Int) < IntKind.i64.wrap ((n : Int) - (k : Int)) then (k : Int) else IntKind.i64.wrap ((n : Int) - (k : Int))) then (c : Int) else (if (k : Int) < IntKind.i64.wrap ((n : Int) - (k : Int)) then (k : Int) else IntKind.i64.wrap ((n : Int) - (k : Int)))) = (m : Int) ∧ 1 ≤ m ∧ m ≤ k ∧ m ≤ n - k := by
   rw [e1]
   refine ⟨(if (c : Int) < (if (k : Int) < (n : Int) - (k : Int) then (k : Int) else (n : Int) - (k : Int)) then (c : Int) else (if (k : Int) < (n : Int) - (k : Int) then (k : Int) else (n : Int) - (k : Int))).toNat, ?_, ?_, ?_, ?_⟩ <;> (repeat' split) <;> omega
  refine Ye 1 rfl ?_
  refine OWp.g rfl rfl (Gives.min3 rfl rfl rfl rfl hm) ?_
  refine Yz 1 rfl ?_
  refine Wp.region ?_
  refine Yc rfl rfl (bStringC hbk ?_)
  intro es3 hb3
  refine Ye 1 rfl ?_
  refine OWp.g rfl rfl (Gives.sliceStr (l := 0) (h' := m) rfl rfl rfl rfl ⟨_, _, rfl, rfl⟩ (by omega) (by rw [hlen]; omega)) ?_
  refine Yc rfl rfl (bWriteEqC (s := List.replicate m 0) (by simp only [List.take_replicate, List.drop_replicate]; congr 1; omega) hb3 (by rw [hlen, List.length_replicate]; omega) ?_)
  intro es4 hb4
  rw [List.replicate_append_replicate] at hb4
  refine OWp.nil ?_
  exact ⟨(k + m, es4), by simp only; omega, ⟨by simp only; omega, by simp only; omega, hb4⟩, .cons rfl (.cons rfl (.cons rfl (.nil _))), .refl _⟩
 have h5 := of_decide_eq_false h5
 obtain rfl : k = n := by omega
 refine Wp.exit ?_
 refine Yq ?_
 refine Yc rfl rfl (bStringC hbk ?_)
 intro es3 hb3
 refine Yz 1 rfl ?_
 refine Wp.drop (List.sublist_append_right _ _) ?_
 refine Wp.ret ⟨trivial, _, ⟨_, _, rfl, rfl, rfl⟩, ?_⟩
 exact H
end
end Go.Proofs.D

namespace Go.Proofs.D
open Go.Lg Go.Sha
set_option maxRecDepth 100000

theorem bc_get {l : List UInt8} {g : List Value} {i : Nat} (h : i < l.length) : (byteCells l ++ g)[i]? = some (.int .u8 (l[i].toNat)) := by
 rw [List.getElem?_append_left (by rw [byteCells_length]; exact h)]
 simp [byteCells, h]
theorem bc_set {l : List UInt8} {g : List Value} {o i : Nat} {x : Int} {c : UInt8} (h : i < l.length) (hx : x = c.toNat) (ho : o = i) :
  wr (byteCells l ++ g) o (Value.int .u8 x).cells.toList = byteCells (l.set i c) ++ g := by
 subst hx ho
 unfold wr byteCells
 rw [List.set_eq_take_append_cons_drop, if_pos h]
 show List.take o _ ++ [Value.int .u8 (c.toNat : Int)] ++ List.drop (o + 1) _ = _
 rw [List.take_append_of_le_length (by simp; omega), List.drop_append_of_le_length (by simp; omega)]
 simp [List.map_take, List.map_drop]

def padAt (k : List UInt8) (y : UInt8) (i : Nat) : List UInt8 := (k.take i).map (· ^^^ y) ++ k.drop i
theorem padAt_len (k : List UInt8) (y : UInt8) (i : Nat) : (padAt k y i).length = k.length := by simp [padAt]; omega
theorem padAt_zero (k : List UInt8) (y : UInt8) : padAt k y 0 = k := by simp [padAt]
theorem padAt_all (k : List UInt8) (y : UInt8) : padAt k y k.length = k.map (· ^^^ y) := by simp [padAt]
theorem padAt_get (k : List UInt8) (y : UInt8) {i : Nat} (h : i < k.length) : (padAt k y i)[i]'(by rw [padAt_len]; exact h) = k[i] := by
 simp only [padAt]
 rw [List.getElem_append_right (by simp; omega)]
 simp [Nat.min_eq_left (Nat.le_of_lt h)]
theorem padAt_set (k : List UInt8) (y : UInt8) {i : Nat} (h : i < k.length) : (padAt k y i).set i (k[i] ^^^ y) = padAt k y (i + 1) := by
 simp only [padAt]
 rw [List.set_append_right _ _ (by simp; omega)]
 have hm : ((k.take i).map (· ^^^ y)).length = i := by simp; omega
 rw [hm, Nat.sub_self, List.drop_eq_getElem_cons h, List.set_cons_zero, List.take_succ_eq_append_getElem h, List.map_append, List.append_assoc]
 rfl
theorem xor8 (a b : UInt8) : bits .xor .u8 (a.toNat : Int) (b.toNat : Int) = ((a ^^^ b).toNat : Int) := by
 rw [Go.Lg.u8_xor a.toNat_lt b.toNat_lt, UInt8.toNat_xor]

section
variable {B : Nat} {S R : Ents} {Q : Value → Ents → Prop}

theorem zerosEqC {n : Nat} {m : Int} (hm : m = (n : Int)) (hn : n ≤ 2147483648) (H : Q (.string (str (List.replicate n 0))) S) :
  CallWp Tryz.prog B 73 #[.string (str [0]), .int .i64 m] Q S := by
 subst hm; exact zerosC hn H

theorem paddedC {k : List UInt8} {y : UInt8} (hk : KsIn S) (hl : k.length + 100 ≤ big) (H : Q (.string (str (keyPad k y))) S) :
  CallWp Tryz.prog B 77 #[.string (str k), .int .u8 y.toNat] Q S := by
 have hb : big = 281474976710656 := rfl
 rw [hb] at hl
 refine Yx (args := [_, _]) Tryz.func77 Tryz.ntmps77 ?_
 refine Yn 1 rfl ?_
 refine Wp.seqS (α := List UInt8) (fun x => [(0, .string (str x)), (1, .int .u8 y.toNat)]) (fun _ => S) (fun x => x = (if 64 < k.length then sha k else k)) ?_ ?_
 ·skip
  refine Yn 3 rfl ?_
  refine Wp.cond rfl (fun h1 => ?_) (fun h1 => ?_)
  ·have h1 := of_decide_eq_true h1
   refine Wp.region ?_
   refine Ye 1 rfl ?_
   refine OWp.step rfl (Step.buildSlice rfl rfl rfl ?_); intro L hBL hLL
   refine Yc rfl rfl (sumC (l := [k]) (Reads.row (k := 1) (sz := 1) (.head _) (Nat.le_of_ble_eq_true rfl)) (by decide) hk.cons (by rw [hb]; simpa using hl) ?_)
   refine OWp.drop (List.sublist_cons_self _ _) ?_
   refine Yz 1 rfl ?_
   exact ⟨_, rfl, .cons' rfl (by rw [if_pos (by omega)]; simp) (.cons rfl (.nil _)), .refl _⟩
  have h1 := of_decide_eq_false h1
  refine Wp.skip ?_
  exact ⟨_, rfl, .cons' rfl (by rw [if_neg (by omega)]) (.cons rfl (.nil _)), .refl _⟩
 rintro x hx
 have hx64 : x.length ≤ 64 := by subst hx; split <;> first | omega | (rw [sha_len]; omega)
 refine Yg 4 rfl ?_
 refine Yc rfl rfl (zerosEqC (n := 64 - x.length) (by rw [i64_id] <;> omega) (by omega) ?_)
 refine OWp.g rfl rfl (Gives.addStr rfl rfl rfl (by rw [List.length_replicate]; omega)) ?_
 refine OWp.step rfl (Step.strToBytes rfl rfl rfl rfl rfl rfl ?_); intro L g cap hBL hLL hcL
 generalize hkk : x ++ List.replicate (64 - x.length) 0 = kk at *
 have hkl : kk.length = 64 := by rw [← hkk, List.length_append, List.length_replicate]; omega
 refine Yz 1 rfl ?_
 refine Wp.seq ?_
 refine Yn 3 rfl ?_
 refine Wp.block ?_
 refine Wp.loopS (α := Nat) (fun i => 64 - i) (fun i => [(1, .int .u8 y.toNat), (5, .slice (some ⟨L, 0, none⟩) 64 cap), (21, .int .i64 64), (22, .int .i64 (i : Int))]) (fun i => (L, cel (byteCells (padAt kk y i) ++ g) 5 (cap, cap + 1)) :: S) (fun i => i ≤ 64) 0 ?_ (by simp only [padAt_zero]; exact .refl _) (by omega) ?_
 ·exact .cons rfl (.cons' rfl (by rw [hkl]) (.cons' rfl (by rw [hkl]; rfl) (.cons rfl (.nil _))))
 intro i hi
 have hpl : (padAt kk y i).length = 64 := by rw [padAt_len, hkl]
 refine Yn 1 rfl ?_
 refine Wp.seq ?_
 refine Wp.cond rfl (fun h1 => ?_) (fun h1 => ?_)
 ·have h1 := of_decide_eq_true h1
  have hlt : i < 64 := by omega
  refine Wp.skip ?_
  refine Wp.seq ?_
  refine Wp.block ?_
  refine Yn 2 rfl ?_
  refine Wp.region ?_
  refine Ye 2 rfl ?_
  refine OWp.g rfl rfl (Gives.indexAddrSlice (i) rfl rfl rfl rfl rfl rfl (by omega)) ?_
  refine OWp.load (.head _) rfl rfl rfl rfl (by show (byteCells (padAt kk y i) ++ g)[0 + i * 1]? = some (.int .u8 (kk[i].toNat)); rw [Nat.zero_add, Nat.mul_one, bc_get (by omega), padAt_get kk y (by omega)]) ?_
  refine Ye 2 rfl ?_
  refine OWp.g rfl rfl (Gives.indexAddrSlice (i) rfl rfl rfl rfl rfl rfl (by omega)) ?_
  refine OWp.step rfl (Step.storeAs 0 (byteCells (padAt kk y (i + 1)) ++ g) rfl rfl rfl rfl rfl hBL rfl (.inr (by rw [← hcL, List.length_append, List.length_append, byteCells_length, byteCells_length, hpl, hkl]; exact Nat.le_refl _)) rfl (by rw [List.length_append, byteCells_length, hpl]; show 0 + i * 1 + 1 ≤ _; omega) (by rw [xor8, ← padAt_set kk y (by omega)]; exact bc_set (by omega) rfl (by show 0 + i * 1 = i; omega)) rfl ?_)
  refine OWp.nil ?_
  refine Wp.region ?_
  refine Yz 2 rfl ?_
  exact ⟨i + 1, by omega, by omega, .cons rfl (.cons rfl (.cons rfl (.cons' rfl (int_eq (i64_inc (by omega))) (.nil _)))), .refl _⟩
 have h1 := of_decide_eq_false h1
 obtain rfl : i = 64 := by omega
 have hfin : padAt kk y 64 = keyPad k y := by
  rw [← hkl, padAt_all, ← hkk, hx]; rfl
 refine Wp.exit ?_
 refine Yg 1 rfl ?_
 refine OWp.gives rfl rfl (Gives.bytesToStr (F := (L, cel (byteCells (padAt kk y 64) ++ g) 5 (cap, cap + 1)) :: S) (l := padAt kk y 64) (k := 64) rfl rfl rfl rfl rfl (by have := Reads.row (S := (L, cel (byteCells (padAt kk y 64) ++ g) 5 (cap, cap + 1)) :: S) (sz := 1) (k := 64) (cap := cap) (.head _) (by rw [List.length_append, byteCells_length, hpl]; omega); rw [Nat.mul_one, List.take_append_of_le_length (by rw [byteCells_length, hpl]; omega), List.take_of_length_le (by rw [byteCells_length, hpl]; omega)] at this; exact this)) (fun _ h => h) ?_
 refine Yz 1 rfl ?_
 refine Wp.dropAt 0 rfl ?_
 refine Wp.ret ⟨trivial, _, ⟨_, _, rfl, rfl, rfl⟩, ?_⟩
 rw [hfin]; exact H
end
end Go.Proofs.D

namespace Go.Proofs.D
open Go.Lg Go.Sha
set_option maxRecDepth 100000

theorem strs_one (l : List (List UInt8)) : (strs l).all (·.oneCell') = true := by
 rw [List.all_eq_true]
 intro v hv
 simp only [strs, List.mem_map] at hv
 obtain ⟨s, _, rfl⟩ := hv
 rfl
theorem keyPad_len (k : List UInt8) (y : UInt8) : (keyPad k y).length = 64 := by
 have : ∀ x : List UInt8, x.length ≤ 64 → ((x ++ List.replicate (64 - x.length) 0).map (· ^^^ y)).length = 64 := fun x h => by
  rw [List.length_map, List.length_append, List.length_replicate]; omega
 unfold keyPad
 refine this _ ?_
 split
 ·rw [sha_len]; decide
 ·omega

section
variable {B : Nat} {S R : Ents} {Q : Value → Ents → Prop}

theorem tagC {key : List UInt8} {v : Value} {n : Nat} {l : List (List UInt8)} (hl : Reads S 1 v n (strs l)) (hn : n ≤ 1099511627776) (hk : KsIn S) (hkl : key.length + 1000 ≤ big) (ht : l.flatten.length + 1000 ≤ big) (H : Q (.string (str (hmac key l.flatten))) S) :
  CallWp Tryz.prog B 45 #[.string (str key), v] Q S := by
 have hb : big = 281474976710656 := rfl
 have hm : maxLen = 9223372036854775807 := rfl
 rw [hb] at hkl ht
 refine Yx (args := [_, _]) Tryz.func45 Tryz.ntmps45 ?_
 refine Yn 1 rfl ?_
 refine Yg 1 rfl ?_
 refine Yc rfl rfl (paddedC (y := 54) hk (by rw [hb]; omega) ?_)
 refine OWp.step rfl (Step.buildSlice rfl rfl rfl ?_); intro L hBL hLL
 refine Ye 1 rfl ?_
 refine OWp.step rfl (Step.append (e := 9) (es := [(L, cel [.string (str (keyPad key 54))] 9)]) (R := S) rfl rfl rfl rfl rfl rfl (by decide) rfl rfl (fun _ h => h) (Own.row hBL rfl (by decide)) (hl.mono fun x hx => .tail _ hx) (strs_one l) (by show (1 + n) * 16 ≤ _; omega) (by rw [hm]; omega) ?_)
 intro v1 es1 ho1 _
 refine Yc rfl rfl (sumC (l := keyPad key 54 :: l) (ho1.reads.mono fun x hx => List.mem_append_left _ hx) (by omega) (KsIn.append hk) (by rw [hb, List.flatten_cons, List.length_append, keyPad_len]; omega) ?_)
 refine OWp.drop (List.sublist_append_right _ _) ?_
 refine Yz 1 rfl ?_
 refine Yg 1 rfl ?_
 refine Yc rfl rfl (paddedC (y := 92) hk (by rw [hb]; omega) ?_)
 refine Ye 1 rfl ?_
 refine OWp.step rfl (Step.buildSlice rfl rfl rfl ?_); intro L2 hBL2 hLL2
 refine Yc rfl rfl (sumC (l := [keyPad key 92, sha (keyPad key 54 :: l).flatten]) (Reads.row (k := 2) (sz := 1) (.head _) (Nat.le_of_ble_eq_true rfl)) (by decide) hk.cons (by rw [hb]; simp [keyPad_len, sha_len]) ?_)
 refine Yz 1 rfl ?_
 refine Wp.dropAt 0 rfl ?_
 refine Wp.ret ⟨trivial, _, ⟨_, _, rfl, rfl, rfl⟩, ?_⟩
 show Q (.string _) S
 simpa [hmac] using H
theorem extractC {salt' secret : List UInt8} (hk : KsIn S) (h1 : salt'.length + 1000 ≤ big) (h2 : secret.length + 1000 ≤ big) (H : Q (.string (str (hmac salt' secret))) S) :
  CallWp Tryz.prog B 56 #[.string (str salt'), .string (str secret)] Q S := by
 refine Yx (args := [_, _]) Tryz.func56 Tryz.ntmps56 ?_
 refine Yn 1 rfl ?_
 refine Yg 2 rfl ?_
 refine OWp.step rfl (Step.buildSlice rfl rfl rfl ?_); intro L hBL hLL
 refine Yc rfl rfl (tagC (l := [secret]) (Reads.row (k := 1) (sz := 1) (.head _) (Nat.le_of_ble_eq_true rfl)) (by decide) hk.cons h1 (by simpa using h2) ?_)
 refine Yz 1 rfl ?_
 refine Wp.dropAt 0 rfl ?_
 refine Wp.ret ⟨trivial, _, ⟨_, _, rfl, rfl, rfl⟩, ?_⟩
 show Q (.string _) S
 simpa using H
theorem expandC {key info : List UInt8} {n : Nat} (hk : KsIn S) (hn : n ≤ 8160) (h1 : key.length + 1000 ≤ big) (h2 : info.length + 2000 ≤ big) (H : Q (.tuple #[.string (str (expand key info n)), .int .i64 0]) S) :
  CallWp Tryz.prog B 55 #[.string (str key), .string (str info), .int .i64 (n : Int)] Q S := by
 have hb : big = 281474976710656 := rfl
 obtain ⟨m, hm⟩ : ∃ m, m = (n + 31) / 32 := ⟨_, rfl⟩
 refine Yx (args := [_, _, _]) Tryz.func55 Tryz.ntmps55 ?_
 refine Yn 2 rfl ?_
 refine Wp.seq ?_
 refine Yg 3 rfl ?_
 refine Dt 13 rfl (by omega) fun cc1 => ?_
 refine Yz 3 rfl ?_
 refine Ct rfl (by omega) fun cc2 => ?_
 refine Wp.skip ?_
 refine Yq ?_
 refine Ya rfl rfl rfl rfl fun L hBL hLL => ?_
 refine OWp.nil ?_
 refine Yn 1 rfl ?_
 refine Wp.seq ?_
 refine Yn 1 rfl ?_
 refine Wp.block ?_
 refine Wp.loopS (α := Nat × List UInt8 × List UInt8 × Ents) (fun z => m - z.1) (fun z => [(0, .string (str key)), (1, .string (str info)), (2, .int .i64 (n : Int)), (8, pt L), (9, .string (str z.2.1)), (10, .int .u8 ((UInt8.ofNat (z.1 + 1)).toNat : Int))]) (fun z => z.2.2.2 ++ S) (fun z => z.1 ≤ m ∧ z.2.1.length ≤ 32 ∧ z.2.2.1.length = 32 * z.1 ∧ z.2.2.1 ++ pieces key info (m - z.1) (z.1 + 1) z.2.1 = pieces key info m 1 [] ∧ Bd B L z.2.2.1 z.2.2.2) (0, [], [], [(L, cel [.pointer none, .slice none 0 0] 212)]) ?_ (.refl _) ⟨by omega, Nat.zero_le _, rfl, rfl, hBL, _, _, [], .inl rfl, rfl, OwnF.nil _ _⟩ ?_
 ·exact .cons rfl (.cons rfl (.cons rfl (.cons rfl (.cons rfl (.cons rfl (.nil _))))))
 rintro ⟨j, last, built, es⟩ ⟨hj, hl, hbl, hp, hbd⟩
 simp only at hj hl hbl hp hbd ⊢
 refine Wp.seq ?_
 refine Yq ?_
 refine Yc rfl rfl (bLenC hbd ?_)
 rw [hbl]
 refine Yz 2 rfl ?_
 refine Wp.cond rfl (fun h5 => ?_) (fun h5 => ?_)
 ·have h5 := of_decide_eq_true h5
  have hjm : j < m := by omega
  refine Wp.skip ?_
  refine Wp.seq ?_
  refine Wp.block ?_
  refine Yg 4 rfl ?_
  refine OWp.step rfl (Step.buildSlice rfl rfl rfl ?_); intro L1 hBL1 hLL1
  refine OWp.gives rfl rfl (Gives.bytesToStr (F := (L1, cel [.int .u8 ((UInt8.ofNat (j + 1)).toNat : Int)] 5) :: (es ++ S)) (l := [UInt8.ofNat (j + 1)]) (k := 1) rfl rfl rfl rfl rfl (Reads.row (k := 1) (sz := 1) (.head _) (Nat.le_of_ble_eq_true rfl))) (fun _ h => h) ?_
  refine OWp.step rfl (Step.buildSlice rfl rfl rfl ?_); intro L2 hBL2 hLL2
  refine Yc rfl rfl (tagC (l := [last, info, [UInt8.ofNat (j + 1)]]) (Reads.row (k := 3) (sz := 1) (.head _) (Nat.le_of_ble_eq_true rfl)) (by decide) (KsIn.append hk).cons.cons h1 (by rw [hb] at h2 ⊢; simp; omega) ?_)
  refine OWp.drop (List.Sublist.cons _ (List.sublist_cons_self _ _)) ?_
  refine Yz 1 rfl ?_
  refine Wp.region ?_
  refine Ye 1 rfl ?_
  refine Yc rfl rfl (bWriteC hbd (by rw [hbl, hmac_len]; omega) ?_)
  intro es2 hbd2
  refine OWp.nil ?_
  refine Wp.region ?_
  refine Yz 3 rfl ?_
  have ht : [last, info, [UInt8.ofNat (j + 1)]].flatten = last ++ info ++ [UInt8.ofNat (j + 1)] := by simp
  rw [ht] at hbd2 ⊢
  obtain ⟨q, hq⟩ : ∃ q, m - j = q + 1 := ⟨m - j - 1, by omega⟩
  rw [hq, pieces] at hp
  have hu : IntKind.u8.wrap (((UInt8.ofNat (j + 1)).toNat : Int) + 1) = ((UInt8.ofNat (j + 1 + 1)).toNat : Int) := by
   rw [IntKind.wrap_u8, UInt8.toNat_ofNat', UInt8.toNat_ofNat']; omega
  refine ⟨(j + 1, hmac key (last ++ info ++ [UInt8.ofNat (j + 1)]), built ++ hmac key (last ++ info ++ [UInt8.ofNat (j + 1)]), es2), by simp only; omega, ⟨by simp only; omega, by simp only [hmac_len]; omega, by simp only [List.length_append, hmac_len, hbl]; omega, ?_, hbd2⟩, .cons rfl (.cons rfl (.cons rfl (.cons rfl (.cons rfl (.cons' rfl (int_eq hu) (.nil _)))))), .refl _⟩
  simp only
  rw [show m - (j + 1) = q by omega, List.append_assoc]
  exact hp
 have h5 := of_decide_eq_false h5
 obtain rfl : j = m := by omega
 rw [Nat.sub_self, pieces, List.append_nil] at hp
 refine Wp.exit ?_
 refine Yq ?_
 refine Yc rfl rfl (bStringC hbd ?_)
 intro es2 hbd2
 refine Ye 1 rfl ?_
 refine OWp.g rfl rfl (Gives.sliceStr (l := 0) (h' := n) rfl rfl rfl rfl ⟨_, _, rfl, rfl⟩ (by omega) (by rw [hbl]; omega)) ?_
 refine Yz 2 rfl ?_
 refine Wp.drop (List.sublist_append_right _ _) ?_
 refine Wp.ret ⟨trivial, _, ⟨_, _, rfl, rfl, _, _, rfl, rfl, rfl⟩, ?_⟩
 show Q (.tuple #[.string _, _]) S
 rw [hp, hm]; exact H
theorem deriveC {secret label : List UInt8} {n : Nat} (hk : KsIn S) (hn : n ≤ 8160) (h1 : secret.length + 1000 ≤ big) (h2 : label.length + 2000 ≤ big) (H : Q (.tuple #[.string (str (derive secret label n)), .int .i64 0]) S) :
  CallWp Tryz.prog B 25 #[.string (str secret), .string (str label), .int .i64 (n : Int)] Q S := by
 have hb : big = 281474976710656 := rfl
 refine Yx (args := [_, _, _]) Tryz.func25 Tryz.ntmps25 ?_
 refine Yn 2 rfl ?_
 refine Yg 1 rfl ?_
 refine Yc rfl rfl (extractC (salt' := salt) hk (by rw [hb]; decide) h1 ?_)
 refine Ye 2 rfl ?_
 refine Yc rfl rfl (expandC hk hn (by rw [hmac_len, hb]; decide) h2 ?_)
 refine Yz 4 rfl ?_
 refine Wp.ret ⟨trivial, _, ⟨_, _, rfl, rfl, _, _, rfl, rfl, rfl⟩, ?_⟩
 exact H
end
end Go.Proofs.D

namespace Go.Proofs.D
open Go.Lg Go.Sha
set_option maxRecDepth 100000

theorem or_low {a b i : Nat} (h : a < 2 ^ i) : a ||| b * 2 ^ i = a + b * 2 ^ i := by
 rw [Nat.or_comm, Nat.add_comm, Nat.mul_comm, Nat.two_pow_add_eq_or_of_lt h]
theorem u8_u32 (x : UInt8) : IntKind.u32.wrap (x.toNat : Int) = (x.toNat : Int) := by
 have := x.toNat_lt
 rw [IntKind.wrap_u32]; omega
theorem shl_u32 (x : UInt8) (k : Nat) (hk : k ≤ 24) : IntKind.u32.wrap ((x.toNat : Int) * 2 ^ (min k IntKind.u32.bits)) = ((x.toNat * 2 ^ k : Nat) : Int) := by
 have h1 := x.toNat_lt
 have h2 : min k IntKind.u32.bits = k := by show min k 32 = k; omega
 have h3 : x.toNat * 2 ^ k < 4294967296 := by
  have := Nat.mul_le_mul (show x.toNat ≤ 255 by omega) (Nat.pow_le_pow_right (show 0 < 2 by decide) hk)
  omega
 rw [h2]
 have e : (x.toNat : Int) * 2 ^ k = ((x.toNat * 2 ^ k : Nat) : Int) := by simp
 rw [e, IntKind.wrap_u32]
 omega
theorem word_eq (a b c d : UInt8) (r : List UInt8) : bits .or .u32 (bits .or .u32 (bits .or .u32 (IntKind.u32.wrap (a.toNat : Int)) (IntKind.u32.wrap (IntKind.u32.wrap (b.toNat : Int) * 2 ^ (min 8 IntKind.u32.bits)))) (IntKind.u32.wrap (IntKind.u32.wrap (c.toNat : Int) * 2 ^ (min 16 IntKind.u32.bits)))) (IntKind.u32.wrap (IntKind.u32.wrap (d.toNat : Int) * 2 ^ (min 24 IntKind.u32.bits))) = ((le (a :: b :: c :: d :: r) : Nat) : Int) := by
 have h1 := a.toNat_lt
 have h2 := b.toNat_lt
 have h3 := c.toNat_lt
 have h4 := d.toNat_lt
 rw [u8_u32, u8_u32, u8_u32, u8_u32, shl_u32 b 8 (by decide), shl_u32 c 16 (by decide), shl_u32 d 24 (by decide)]
 rw [Go.Lg.u32_or (by omega) (by omega), or_low (by omega), Go.Lg.u32_or (by omega) (by omega), or_low (by omega), Go.Lg.u32_or (by omega) (by omega), or_low (by omega)]
 rfl

section
variable {B : Nat} {S R : Ents} {Q : Value → Ents → Prop}

theorem wordC {s : List UInt8} (hs : 4 ≤ s.length) (H : Q (.int .u32 (le s : Nat)) S) :
  CallWp Tryz.prog B 216 #[.string (str s)] Q S := by
 obtain ⟨a, b, c, d, r, rfl⟩ : ∃ a b c d r, s = a :: b :: c :: d :: r := by
  match s, hs with
  | a :: b :: c :: d :: r, _ => exact ⟨a, b, c, d, r, rfl⟩
 refine Yx (args := [_]) Tryz.func216 Tryz.ntmps216 ?_
 refine Yn 1 rfl ?_
 refine Wp.seq (Wp.regionDraw [0, 1, 2, 3, 4, 5, 6, 7, 8, 9, 10, 11, 12, 13, 14, 15, 16, 17, 18] [] rfl (by decide +kernel) ?_)
 refine DWp.evs 1 rfl ?_
 refine DWp.g rfl rfl rfl rfl (Gives.indexStr (b := a) rfl rfl rfl rfl (by decide) rfl) ?_
 refine DWp.evs 2 rfl ?_
 refine DWp.g rfl rfl rfl rfl (Gives.indexStr (b := b) rfl rfl rfl rfl (by decide) rfl) ?_
 refine DWp.evs 4 rfl ?_
 refine DWp.g rfl rfl rfl rfl (Gives.indexStr (b := c) rfl rfl rfl rfl (by decide) rfl) ?_
 refine DWp.evs 4 rfl ?_
 refine DWp.g rfl rfl rfl rfl (Gives.indexStr (b := d) rfl rfl rfl rfl (by decide) rfl) ?_
 refine DWp.evs 4 rfl ?_
 refine DWp.nil ?_
 refine Wp.ret ⟨trivial, _, ⟨_, _, rfl, rfl, rfl⟩, ?_⟩
 rw [word_eq a b c d r]; exact H
theorem rlC {x n : Nat} {v k : Int} (hv : v = (x : Int)) (hx : x < 4294967296) (hn : n ≤ 32) (hk : bits .and .u64 (IntKind.u64.wrap k) 31 = (n : Int)) (h : Q (.int .u32 (rl x n : Nat)) S) :
  CallWp Tryz.prog B 182 #[.int .u32 v, .int .i64 k] Q S := by
 subst hv
 exact rotC hx hk (show n + (32 - n) = 32 by omega) h

theorem rl_lt {x n : Nat} (hx : x < 4294967296) (hn : n ≤ 32) : rl x n < 4294967296 := by
 obtain ⟨m, hm⟩ : ∃ m, n + m = 32 := ⟨32 - n, by omega⟩
 have em : 32 - n = m := by omega
 unfold rl
 rw [em]
 have hlt : x / 2 ^ m < 2 ^ n := by
  rw [Nat.div_lt_iff_lt_mul (Nat.two_pow_pos m), ← Nat.pow_add, hm]; exact hx
 have hp : (4294967296 : Nat) = 2 ^ n * 2 ^ m := by rw [← Nat.pow_add, hm]
 have hmod : x * 2 ^ n % 4294967296 = 2 ^ n * (x % 2 ^ m) := by
  rw [hp, Nat.mul_comm x, Nat.mul_mod_mul_left]
 have hz := Nat.mod_lt x (Nat.two_pow_pos m)
 rw [hmod]
 have : 2 ^ n * (x % 2 ^ m + 1) ≤ 2 ^ n * 2 ^ m := Nat.mul_le_mul_left _ hz
 rw [Nat.mul_add, Nat.mul_one, ← hp] at this
 omega
theorem add_lt (x y : Nat) : add x y < 4294967296 := Nat.mod_lt _ (by decide)

theorem quarterC {a b c d : Nat} (_ha : a < 4294967296) (hb : b < 4294967296) (_hc : c < 4294967296) (hd : d < 4294967296)
  (H : Q (.tuple #[.int .u32 ((quarter a b c d).1 : Nat), .int .u32 ((quarter a b c d).2.1 : Nat), .int .u32 ((quarter a b c d).2.2.1 : Nat), .int .u32 ((quarter a b c d).2.2.2 : Nat)]) S) :
  CallWp Tryz.prog B 224 #[.int .u32 (a : Int), .int .u32 (b : Int), .int .u32 (c : Int), .int .u32 (d : Int)] Q S := by
 have r : ∀ x n, x < 4294967296 → n ≤ 32 → rl x n < 4294967296 := fun x n => rl_lt
 have x32 : ∀ a b, a < 4294967296 → b < 4294967296 → a ^^^ b < 4294967296 := fun a b => xor_lt32
 obtain ⟨a1, ea1⟩ : ∃ a1, a1 = add a b := ⟨_, rfl⟩
 have ha1 : a1 < 4294967296 := ea1 ▸ add_lt _ _
 obtain ⟨d1, ed1⟩ : ∃ d1, d1 = rl (d ^^^ a1) 16 := ⟨_, rfl⟩
 have hd1 : d1 < 4294967296 := ed1 ▸ r _ _ (x32 _ _ hd ha1) (by decide)
 obtain ⟨c1, ec1⟩ : ∃ c1, c1 = add c d1 := ⟨_, rfl⟩
 have hc1 : c1 < 4294967296 := ec1 ▸ add_lt _ _
 obtain ⟨b1, eb1⟩ : ∃ b1, b1 = rl (b ^^^ c1) 12 := ⟨_, rfl⟩
 have hb1 : b1 < 4294967296 := eb1 ▸ r _ _ (x32 _ _ hb hc1) (by decide)
 obtain ⟨a2, ea2⟩ : ∃ a2, a2 = add a1 b1 := ⟨_, rfl⟩
 have ha2 : a2 < 4294967296 := ea2 ▸ add_lt _ _
 obtain ⟨d2, ed2⟩ : ∃ d2, d2 = rl (d1 ^^^ a2) 8 := ⟨_, rfl⟩
 have hd2 : d2 < 4294967296 := ed2 ▸ r _ _ (x32 _ _ hd1 ha2) (by decide)
 obtain ⟨c2, ec2⟩ : ∃ c2, c2 = add c1 d2 := ⟨_, rfl⟩
 have hc2 : c2 < 4294967296 := ec2 ▸ add_lt _ _
 obtain ⟨b2, eb2⟩ : ∃ b2, b2 = rl (b1 ^^^ c2) 7 := ⟨_, rfl⟩
 have hq : quarter a b c d = (a2, b2, c2, d2) := by
  rw [eb2, ec2, ed2, ea2, eb1, ec1, ed1, ea1]; rfl
 rw [hq] at H
 refine Yx (args := [_, _, _, _]) Tryz.func224 Tryz.ntmps224 ?_
 refine Yn 4 rfl ?_
 refine Yn 4 rfl ?_
 refine Wp.weaken (E' := [(0, .int .u32 (a1 : Int)), (1, .int .u32 (b : Int)), (2, .int .u32 (c : Int)), (3, .int .u32 (d : Int))]) (.cons' rfl (int_eq (by rw [u32_add, ea1]; rfl)) (.cons rfl (.cons rfl (.cons rfl (.nil _))))) (fun _ h => h) ?_
 refine Yg 3 rfl ?_
 refine Yc rfl rfl (rlC (n := 16) (Go.Lg.u32_xor hd ha1) (x32 _ _ hd ha1) (by decide) (by decide +kernel) ?_)
 rw [← ed1]
 refine Yz 1 rfl ?_
 refine Yn 4 rfl ?_
 refine Wp.weaken (E' := [(0, .int .u32 (a1 : Int)), (1, .int .u32 (b : Int)), (2, .int .u32 (c1 : Int)), (3, .int .u32 (d1 : Int))]) (.cons rfl (.cons rfl (.cons' rfl (int_eq (by rw [u32_add, ec1]; rfl)) (.cons rfl (.nil _))))) (fun _ h => h) ?_
 refine Yg 3 rfl ?_
 refine Yc rfl rfl (rlC (n := 12) (Go.Lg.u32_xor hb hc1) (x32 _ _ hb hc1) (by decide) (by decide +kernel) ?_)
 rw [← eb1]
 refine Yz 1 rfl ?_
 refine Yn 4 rfl ?_
 refine Wp.weaken (E' := [(0, .int .u32 (a2 : Int)), (1, .int .u32 (b1 : Int)), (2, .int .u32 (c1 : Int)), (3, .int .u32 (d1 : Int))]) (.cons' rfl (int_eq (by rw [u32_add, ea2]; rfl)) (.cons rfl (.cons rfl (.cons rfl (.nil _))))) (fun _ h => h) ?_
 refine Yg 3 rfl ?_
 refine Yc rfl rfl (rlC (n := 8) (Go.Lg.u32_xor hd1 ha2) (x32 _ _ hd1 ha2) (by decide) (by decide +kernel) ?_)
 rw [← ed2]
 refine Yz 1 rfl ?_
 refine Yn 4 rfl ?_
 refine Wp.weaken (E' := [(0, .int .u32 (a2 : Int)), (1, .int .u32 (b1 : Int)), (2, .int .u32 (c2 : Int)), (3, .int .u32 (d2 : Int))]) (.cons rfl (.cons rfl (.cons' rfl (int_eq (by rw [u32_add, ec2]; rfl)) (.cons rfl (.nil _))))) (fun _ h => h) ?_
 refine Yg 3 rfl ?_
 refine Yc rfl rfl (rlC (n := 7) (Go.Lg.u32_xor hb1 hc2) (x32 _ _ hb1 hc2) (by decide) (by decide +kernel) ?_)
 rw [← eb2]
 refine Yz 1 rfl ?_
 refine Yn 8 rfl ?_
 refine Wp.ret ⟨trivial, _, ⟨_, _, rfl, rfl, _, _, rfl, rfl, _, _, rfl, rfl, _, _, rfl, rfl, rfl⟩, ?_⟩
 exact H
end
end Go.Proofs.D

namespace Go.Proofs.D
open Go.Lg Go.Sha
set_option maxRecDepth 100000

/-- Words of a state. -/
def Good (x : List Nat) : Prop := x.length = 16 ∧ ∀ y ∈ x, y < 4294967296
theorem quarter_lt {a b c d : Nat} (hb : b < 4294967296) (hd : d < 4294967296) :
  (quarter a b c d).1 < 4294967296 ∧ (quarter a b c d).2.1 < 4294967296 ∧ (quarter a b c d).2.2.1 < 4294967296 ∧ (quarter a b c d).2.2.2 < 4294967296 := by
 have x32 : ∀ a b, a < 4294967296 → b < 4294967296 → a ^^^ b < 4294967296 := fun a b => xor_lt32
 have d1 := rl_lt (n := 16) (x32 _ _ hd (add_lt a b)) (by decide)
 have b1 := rl_lt (n := 12) (x32 _ _ hb (add_lt c (rl (d ^^^ add a b) 16))) (by decide)
 exact ⟨add_lt _ _, rl_lt (x32 _ _ b1 (add_lt _ _)) (by decide), add_lt _ _, rl_lt (x32 _ _ d1 (add_lt _ _)) (by decide)⟩
theorem set_all {l : List Nat} {i x : Nat} (h : ∀ y ∈ l, y < 4294967296) (hx : x < 4294967296) : ∀ y ∈ l.set i x, y < 4294967296 := by
 intro y hy
 rcases List.mem_or_eq_of_mem_set hy with h1 | h1
 ·exact h y h1
 ·rw [h1]; exact hx
def qr (h : Nat) (x : List Nat) (j : Nat) : List Nat := turn x j (4 + (j + h) % 4) (8 + (j + 2 * h) % 4) (12 + (j + 3 * h) % 4)
theorem qr_good {h j : Nat} {x : List Nat} (hx : Good x) : Good (qr h x j) := by
 have q := quarter_lt (a := x.getD j 0) (c := x.getD (8 + (j + 2 * h) % 4) 0) (getD_lt hx.2 (4 + (j + h) % 4)) (getD_lt hx.2 (12 + (j + 3 * h) % 4))
 refine ⟨by simp [qr, turn, hx.1], ?_⟩
 unfold qr turn
 exact set_all (set_all (set_all (set_all hx.2 q.1) q.2.1) q.2.2.1) q.2.2.2
def row4 (h : Nat) (x : List Nat) : Nat → List Nat
 | 0 => x
 | j + 1 => qr h (row4 h x j) j
theorem row4_good {h : Nat} {x : List Nat} (hx : Good x) : ∀ j, Good (row4 h x j)
 | 0 => hx
 | j + 1 => qr_good (row4_good hx j)
theorem row4_succ (h : Nat) (x : List Nat) (j : Nat) : row4 h x (j + 1) = qr h (row4 h x j) j := rfl
def half (x : List Nat) : Nat → List Nat
 | 0 => x
 | h + 1 => row4 h (half x h) 4
theorem half_succ (x : List Nat) (h : Nat) : half x (h + 1) = row4 h (half x h) 4 := rfl
theorem half_good {x : List Nat} (hx : Good x) : ∀ h, Good (half x h)
 | 0 => hx
 | h + 1 => row4_good (half_good hx h) 4
theorem half_zero (x : List Nat) : half x 0 = x := rfl
theorem row4_zero (h : Nat) (x : List Nat) : row4 h x 0 = x := rfl
theorem half_two (x : List Nat) : half x 2 = twice x := by
 have c : ∀ s i, i < 4 → column s i = qr 0 s i := fun s i h => by
  unfold column qr
  rw [show (i + 0) % 4 = i by omega]
 have d : ∀ s i, diagonal s i = qr 1 s i := fun s i => by
  unfold diagonal qr
  rw [Nat.mul_one, Nat.mul_one]
 have r : List.range 4 = [0, 1, 2, 3] := by decide
 unfold twice
 rw [r]
 simp only [List.foldl_cons, List.foldl_nil, d, c _ 0 (by decide), c _ 1 (by decide), c _ 2 (by decide), c _ 3 (by decide), half, row4]

theorem at4 {c j m : Nat} {z : Int} (hz : z = (m : Int)) (hj : j + m ≤ 1000) (hc : c ≤ 1000) : IntKind.i64.wrap ((c : Int) + (IntKind.i64.wrap ((j : Int) + z)).tmod (Int.ofNat (3 + 1))) = ((c + (j + m) % 4 : Nat) : Int) := by
 subst hz
 have e1 : IntKind.i64.wrap ((j : Int) + (m : Int)) = ((j + m : Nat) : Int) := by rw [i64_id (by omega) (by omega)]; rfl
 have e2 : (((j + m : Nat) : Int)).tmod (Int.ofNat (3 + 1)) = (((j + m) % 4 : Nat) : Int) := rfl
 rw [e1, e2, i64_id (by omega) (by omega)]; rfl
theorem i64_mul {c h : Nat} (hc : c * h ≤ 1000) : IntKind.i64.wrap ((c : Int) * (h : Int)) = ((c * h : Nat) : Int) := by
 have : ((c : Int) * (h : Int)) = ((c * h : Nat) : Int) := by simp
 rw [this, i64_id (by omega) (by omega)]
theorem u32s_one (l : List Nat) : (u32s l).all (·.oneCell') = true := by
 rw [List.all_eq_true]
 intro v hv
 simp only [u32s, List.mem_map] at hv
 obtain ⟨s, _, rfl⟩ := hv
 rfl
theorem wr_all {l X : List Value} (h : X.length = l.length) : wr l 0 X = X := by
 unfold wr
 rw [Nat.zero_add, h, List.drop_length, List.take_zero]
 simp
theorem u32s_agg {x : List Nat} (hx : x.length = 16) : Lg.partAt Tryz.prog 341 (u32s x) 0 = some (.agg (u32s x).toArray) :=
 partAt_agg (n := 16) (r := u32s x) (by rw [List.drop_zero, List.take_of_length_le (by rw [u32s_length, hx]; exact Nat.le_refl _)]) rfl rfl (by rw [u32s_length]; exact hx)
attribute [local irreducible] row4 half turned twice
section
variable {B : Nat} {S R : Ents} {Q : Value → Ents → Prop}

set_option maxHeartbeats 1000000 in
theorem turnedC {s : List Nat} (hs : Good s) (H : Q (.agg (u32s (turned 10 s)).toArray) S) :
  CallWp Tryz.prog B 217 #[.agg (u32s s).toArray] Q S := by
 refine CallWp.dropRet ?_
 refine Yx (args := [_]) Tryz.func217 Tryz.ntmps217 ?_
 refine Yq ?_
 refine Yb rfl rfl rfl rfl fun L1 hBL1 hLL1 => ?_
 refine Ya rfl rfl rfl rfl fun L2 hBL2 hLL2 => ?_
 refine OWp.nil ?_
 refine Wp.seq ?_
 refine Yn 1 rfl ?_
 refine Wp.block ?_
 refine Wp.loopS (α := Nat × List Nat) (fun z => 10 - z.1) (fun z => [(1, pt L1), (2, pt L2), (8, .int .i64 (z.1 : Int))]) (fun z => (L2, cel (u32s (List.replicate 16 0)) 341) :: (L1, cel (u32s z.2) 341) :: S) (fun z => z.1 ≤ 10 ∧ turned (10 - z.1) z.2 = turned 10 s ∧ Good z.2) (0, s) ?_ (.refl _) ⟨Nat.zero_le _, rfl, hs⟩ ?_
 ·exact .cons rfl (.cons rfl (.cons rfl (.nil _)))
 rintro ⟨i, x⟩ ⟨hi, ht, hx⟩
 simp only at hi ht hx ⊢
 refine Yn 1 rfl ?_
 refine Wp.seq ?_
 refine Wp.cond rfl (fun h1 => ?_) (fun h1 => ?_)
 ·have h1 := of_decide_eq_true h1
  have hi2 : i < 10 := by omega
  refine Wp.skip ?_
  refine Wp.seq ?_
  refine Wp.block ?_
  refine Yn 1 rfl ?_
  refine Wp.block ?_
  refine Wp.loopS (α := Nat) (fun h => 2 - h) (fun h => [(1, pt L1), (2, pt L2), (8, .int .i64 (i : Int)), (10, .int .i64 (h : Int))]) (fun h => (L2, cel (u32s (List.replicate 16 0)) 341) :: (L1, cel (u32s (half x h)) 341) :: S) (fun h => h ≤ 2) 0 ?_ (by simp only [half_zero]; exact .refl _) (Nat.zero_le _) ?_
  ·exact .cons rfl (.cons rfl (.cons rfl (.cons rfl (.nil _))))
  intro h hh
  refine Yn 1 rfl ?_
  refine Wp.seq ?_
  refine Wp.cond rfl (fun h2 => ?_) (fun h2 => ?_)
  ·have h2 := of_decide_eq_true h2
   have hh2 : h < 2 := by omega
   refine Wp.skip ?_
   refine Wp.seq ?_
   refine Wp.block ?_
   refine Yn 2 rfl ?_
   refine Yn 1 rfl ?_
   refine Wp.block ?_
   refine Wp.loopS (α := Nat) (fun j => 4 - j) (fun j => [(1, pt L1), (2, pt L2), (8, .int .i64 (i : Int)), (10, .int .i64 (h : Int)), (3, .int .i64 (h : Int)), (13, .int .i64 (j : Int))]) (fun j => (L2, cel (u32s (List.replicate 16 0)) 341) :: (L1, cel (u32s (row4 h (half x h) j)) 341) :: S) (fun j => j ≤ 4) 0 ?_ (by simp only [row4_zero]; exact .refl _) (Nat.zero_le _) ?_
   ·exact .cons rfl (.cons rfl (.cons rfl (.cons rfl (.cons rfl (.cons rfl (.nil _))))))
   intro j hj
   refine Yn 1 rfl ?_
   refine Wp.seq ?_
   refine Wp.cond rfl (fun h3 => ?_) (fun h3 => ?_)
   ·have h3 := of_decide_eq_true h3
    have hj2 : j < 4 := by omega
    refine Wp.skip ?_
    refine Wp.seq ?_
    refine Wp.block ?_
    refine Yn 2 rfl ?_
    refine Yn 20 rfl ?_
    refine Wp.weaken (E' := [(1, pt L1), (2, pt L2), (8, .int .i64 (i : Int)), (10, .int .i64 (h : Int)), (3, .int .i64 (h : Int)), (13, .int .i64 (j : Int)), (4, .int .i64 (j : Int)), (5, .int .i64 ((4 + (j + h) % 4 : Nat) : Int)), (6, .int .i64 ((8 + (j + 2 * h) % 4 : Nat) : Int)), (7, .int .i64 ((12 + (j + 3 * h) % 4 : Nat) : Int))]) (.cons rfl (.cons rfl (.cons rfl (.cons rfl (.cons rfl (.cons rfl (.cons rfl (.cons' rfl (int_eq (at4 (c := 4) rfl (by omega) (by omega))) (.cons' rfl (int_eq (at4 (c := 8) (i64_mul (c := 2) (by omega)) (by omega) (by omega))) (.cons' rfl (int_eq (at4 (c := 12) (i64_mul (c := 3) (by omega)) (by omega) (by omega))) (.nil _))))))))))) (fun _ h => h) ?_
    obtain ⟨z, hz⟩ : ∃ z, z = row4 h (half x h) j := ⟨_, rfl⟩
    have hzg : Good z := hz ▸ row4_good (half_good hx h) j
    rw [← hz]
    have hm1 := Nat.mod_lt (j + h) (show 4 > 0 by decide)
    have hm2 := Nat.mod_lt (j + 2 * h) (show 4 > 0 by decide)
    have hm3 := Nat.mod_lt (j + 3 * h) (show 4 > 0 by decide)
    refine Wp.regionDraw [0, 1, 2, 3, 4, 5, 6, 7, 8, 9, 10, 11, 12, 13, 14, 15, 16, 17, 18, 19, 20, 21, 22, 23, 24, 25, 26, 27, 28, 29] [16, 23, 25, 27, 29] rfl (by decide +kernel) ?_
    refine DWp.evs 5 rfl ?_
    refine DWp.g rfl rfl rfl rfl (Gives.indexAddrArr (j) rfl rfl rfl rfl rfl rfl (by omega)) ?_
    refine DWp.load (.tail _ (.head _)) rfl rfl rfl rfl rfl rfl (u32s_part (by rw [hzg.1]; omega)) ?_
    refine DWp.evs 1 rfl ?_
    refine DWp.g rfl rfl rfl rfl (Gives.indexAddrArr ((4 + (j + h) % 4)) rfl rfl rfl rfl rfl rfl (by omega)) ?_
    refine DWp.load (.tail _ (.head _)) rfl rfl rfl rfl rfl rfl (u32s_part (by rw [hzg.1]; omega)) ?_
    refine DWp.evs 1 rfl ?_
    refine DWp.g rfl rfl rfl rfl (Gives.indexAddrArr ((8 + (j + 2 * h) % 4)) rfl rfl rfl rfl rfl rfl (by omega)) ?_
    refine DWp.load (.tail _ (.head _)) rfl rfl rfl rfl rfl rfl (u32s_part (by rw [hzg.1]; omega)) ?_
    refine DWp.evs 1 rfl ?_
    refine DWp.g rfl rfl rfl rfl (Gives.indexAddrArr ((12 + (j + 3 * h) % 4)) rfl rfl rfl rfl rfl rfl (by omega)) ?_
    refine DWp.load (.tail _ (.head _)) rfl rfl rfl rfl rfl rfl (u32s_part (by rw [hzg.1]; omega)) ?_
    refine DWp.stepGrow rfl rfl rfl (Step.call rfl rfl rfl rfl rfl rfl ((quarterC (getD_lt hzg.2 _) (getD_lt hzg.2 _) (getD_lt hzg.2 _) (getD_lt hzg.2 _) ?_)))
    refine ⟨fun _ hy => hy, ?_⟩
    obtain ⟨q, hq⟩ : ∃ q, q = quarter (z.getD j 0) (z.getD (4 + (j + h) % 4) 0) (z.getD (8 + (j + 2 * h) % 4) 0) (z.getD (12 + (j + 3 * h) % 4) 0) := ⟨_, rfl⟩
    rw [← hq]
    refine DWp.evs 5 rfl ?_
    refine DWp.g rfl rfl rfl rfl (Gives.indexAddrArr (j) rfl rfl rfl rfl rfl rfl (by omega)) ?_
    refine DWp.step rfl rfl rfl (Step.storeAs 1 (u32s (z.set j q.1)) rfl rfl rfl rfl rfl hBL1 rfl (Unfz.zero _) rfl (by rw [u32s_length]; simp only [hzg.1]; show 0 + j * 1 + 1 ≤ 16; omega) (u32s_set (by simp only [hzg.1]; omega) (by show 0 + j * 1 = j; omega)) rfl ?_)
    refine prs ?_
    refine DWp.g rfl rfl rfl rfl (Gives.indexAddrArr ((4 + (j + h) % 4)) rfl rfl rfl rfl rfl rfl (by omega)) ?_
    refine DWp.step rfl rfl rfl (Step.storeAs 1 (u32s ((z.set j q.1).set (4 + (j + h) % 4) q.2.1)) rfl rfl rfl rfl rfl hBL1 rfl (Unfz.zero _) rfl (by rw [u32s_length]; simp only [List.length_set, hzg.1]; show 0 + (4 + (j + h) % 4) * 1 + 1 ≤ 16; omega) (u32s_set (by simp only [List.length_set, hzg.1]; omega) (by show 0 + (4 + (j + h) % 4) * 1 = (4 + (j + h) % 4); omega)) rfl ?_)
    refine prs ?_
    refine DWp.g rfl rfl rfl rfl (Gives.indexAddrArr ((8 + (j + 2 * h) % 4)) rfl rfl rfl rfl rfl rfl (by omega)) ?_
    refine DWp.step rfl rfl rfl (Step.storeAs 1 (u32s (((z.set j q.1).set (4 + (j + h) % 4) q.2.1).set (8 + (j + 2 * h) % 4) q.2.2.1)) rfl rfl rfl rfl rfl hBL1 rfl (Unfz.zero _) rfl (by rw [u32s_length]; simp only [List.length_set, hzg.1]; show 0 + (8 + (j + 2 * h) % 4) * 1 + 1 ≤ 16; omega) (u32s_set (by simp only [List.length_set, hzg.1]; omega) (by show 0 + (8 + (j + 2 * h) % 4) * 1 = (8 + (j + 2 * h) % 4); omega)) rfl ?_)
    refine prs ?_
    refine DWp.g rfl rfl rfl rfl (Gives.indexAddrArr ((12 + (j + 3 * h) % 4)) rfl rfl rfl rfl rfl rfl (by omega)) ?_
    refine DWp.step rfl rfl rfl (Step.storeAs 1 (u32s ((((z.set j q.1).set (4 + (j + h) % 4) q.2.1).set (8 + (j + 2 * h) % 4) q.2.2.1).set (12 + (j + 3 * h) % 4) q.2.2.2)) rfl rfl rfl rfl rfl hBL1 rfl (Unfz.zero _) rfl (by rw [u32s_length]; simp only [List.length_set, hzg.1]; show 0 + (12 + (j + 3 * h) % 4) * 1 + 1 ≤ 16; omega) (u32s_set (by simp only [List.length_set, hzg.1]; omega) (by show 0 + (12 + (j + 3 * h) % 4) * 1 = (12 + (j + 3 * h) % 4); omega)) rfl ?_)
    refine prs ?_
    refine DWp.nil ?_
    refine Wp.region ?_
    refine Yz 2 rfl ?_
    exact ⟨j + 1, by omega, by omega, .cons rfl (.cons rfl (.cons rfl (.cons rfl (.cons rfl (.cons' rfl (int_eq (i64_inc (by omega))) (.nil _)))))), by rw [row4_succ, ← hz, hq]; exact .refl _⟩
   have h3 := of_decide_eq_false h3
   refine Wp.exit ?_
   refine Wp.region ?_
   refine Yz 2 rfl ?_
   obtain rfl : j = 4 := by omega
   exact ⟨h + 1, by omega, by omega, .cons rfl (.cons rfl (.cons rfl (.cons' rfl (int_eq (i64_inc (by omega))) (.nil _)))), by rw [half_succ]⟩
  have h2 := of_decide_eq_false h2
  refine Wp.exit ?_
  refine Wp.region ?_
  refine Yz 2 rfl ?_
  obtain rfl : h = 2 := by omega
  refine ⟨(i + 1, half x 2), by simp only; omega, ⟨by simp only; omega, ?_, half_good hx 2⟩, .cons rfl (.cons rfl (.cons' rfl (int_eq (i64_inc (by omega))) (.nil _))), .refl _⟩
  simp only
  rw [half_two, ← ht, show 10 - i = (10 - (i + 1)) + 1 by omega, turned]
 have h1 := of_decide_eq_false h1
 obtain rfl : i = 10 := by omega
 rw [Nat.sub_self, turned] at ht
 refine Wp.exit ?_
 refine Yq ?_
 refine OWp.load (.tail _ (.head _)) rfl rfl rfl rfl (u32s_agg hx.1) ?_
 refine OWp.step rfl (Step.storeAs 0 (u32s x) rfl rfl rfl rfl rfl hBL2 (by show some 16 = some (u32s x).length; rw [u32s_length, hx.1]) (Unfz.zero _) (u32s_one x) (by rw [u32s_length]; show 0 + (u32s x).length ≤ _; rw [u32s_length, hx.1, List.length_replicate]; exact Nat.le_refl _) (wr_all (X := u32s x) (by rw [u32s_length, u32s_length, hx.1, List.length_replicate])) rfl ?_)
 have hp : Lg.partAt Tryz.prog 341 (u32s x) 0 = some (.agg (u32s x).toArray) := u32s_agg hx.1
 refine OWp.nil ?_
 refine Wp.ret ⟨trivial, _, ⟨_, _, _, _, rfl, rfl, ⟨_, _, _, mems, (by first | assumption | rfl)⟩, rfl⟩, ?_⟩
 subst ht; exact ⟨S, subl, H⟩
end
end Go.Proofs.D

namespace Go.Proofs.D
open Go.Lg Go.Sha
set_option maxRecDepth 100000

theorem lewords_succ : ∀ (n : Nat) (l : List UInt8), lewords (n + 1) l = lewords n l ++ [le (l.drop (4 * n))]
 | 0, l => rfl
 | n + 1, l => by
  rw [lewords, lewords_succ n, lewords, List.drop_drop]
  rw [show 4 + 4 * n = 4 * (n + 1) by omega]; rfl
theorem set_mid {a b : List Nat} {x y : Nat} {k : Nat} (hk : k = a.length) : (a ++ x :: b).set k y = a ++ y :: b := by
 subst hk
 rw [List.set_append_right _ _ (Nat.le_refl _), Nat.sub_self, List.set_cons_zero]
def c4 : List Nat := [0x61707865, 0x3320646e, 0x79622d32, 0x6b206574]
def r1 (key : List UInt8) (c i : Nat) : List Nat := c4 ++ (lewords i key ++ (List.replicate (8 - i) 0 ++ (c :: List.replicate 3 0)))
theorem r1_len (key : List UInt8) (c : Nat) {i : Nat} (h : i ≤ 8) : (r1 key c i).length = 16 := by
 simp only [r1, c4, List.length_append, List.length_cons, List.length_nil, lewords_len, List.length_replicate]; omega
theorem r1_set (key : List UInt8) (c : Nat) {i : Nat} (h : i < 8) : (r1 key c i).set (4 + i) (le (key.drop (4 * i))) = r1 key c (i + 1) := by
 have e : 8 - i = (8 - (i + 1)) + 1 := by omega
 have a : ∀ z : List Nat, c4 ++ (lewords i key ++ z) = (c4 ++ lewords i key) ++ z := fun z => by simp
 unfold r1
 rw [e, List.replicate_succ, lewords_succ i, a, List.cons_append, set_mid (by simp only [c4, List.length_append, List.length_cons, List.length_nil, lewords_len])]
 simp
def r2 (key nonce : List UInt8) (c i : Nat) : List Nat := c4 ++ (lewords 8 key ++ (c :: (lewords i nonce ++ List.replicate (3 - i) 0)))
theorem r2_len (key nonce : List UInt8) (c : Nat) {i : Nat} (h : i ≤ 3) : (r2 key nonce c i).length = 16 := by
 simp only [r2, c4, List.length_append, List.length_cons, List.length_nil, lewords_len, List.length_replicate]; omega
theorem r2_set (key nonce : List UInt8) (c : Nat) {i : Nat} (h : i < 3) : (r2 key nonce c i).set (13 + i) (le (nonce.drop (4 * i))) = r2 key nonce c (i + 1) := by
 have e : 3 - i = (3 - (i + 1)) + 1 := by omega
 have a : ∀ z : List Nat, c4 ++ (lewords 8 key ++ (c :: (lewords i nonce ++ z))) = (c4 ++ (lewords 8 key ++ (c :: lewords i nonce))) ++ z := fun z => by simp
 unfold r2
 rw [e, List.replicate_succ, lewords_succ i, a, set_mid (by simp only [c4, List.length_append, List.length_cons, List.length_nil, lewords_len]; omega)]
 simp
theorem r1_r2 (key nonce : List UInt8) (c : Nat) : r1 key c 8 = r2 key nonce c 0 := rfl
theorem r2_start (key nonce : List UInt8) (c : Nat) : r2 key nonce c 3 = Go.Sha.start key nonce c := by
 simp [r2, Go.Sha.start, c4]
theorem le_lt (l : List UInt8) : le l < 4294967296 := by
 unfold le
 split
 ·rename_i a b c d _
  have h1 := a.toNat_lt
  have h2 := b.toNat_lt
  have h3 := c.toNat_lt
  have h4 := d.toNat_lt
  omega
 ·decide
theorem lewords_lt : ∀ (n : Nat) (l : List UInt8), ∀ x ∈ lewords n l, x < 4294967296
 | 0, _ => by simp [lewords]
 | n + 1, l => by
  intro x hx
  rw [lewords, List.mem_cons] at hx
  rcases hx with rfl | hx
  ·exact le_lt l
  ·exact lewords_lt n _ x hx
theorem start_good (key nonce : List UInt8) {c : Nat} (hc : c < 4294967296) : Good (Go.Sha.start key nonce c) := by
 refine ⟨start_len _ _ _, ?_⟩
 intro x hx
 unfold Go.Sha.start at hx
 simp only [List.mem_append, List.mem_cons] at hx
 rcases hx with (rfl | rfl | rfl | rfl | hx) | hx | rfl | hx
 ·decide
 ·decide
 ·decide
 ·decide
 ·cases hx
 ·exact lewords_lt _ _ x hx
 ·exact hc
 ·exact lewords_lt _ _ x hx

section
variable {B : Nat} {S R : Ents} {Q : Value → Ents → Prop}

theorem wordEqC {s t : List UInt8} (ht : t = s) (hs : 4 ≤ s.length) (H : Q (.int .u32 (le s : Nat)) S) :
  CallWp Tryz.prog B 216 #[.string (str t)] Q S := by
 subst ht; exact wordC hs H

set_option maxHeartbeats 1000000 in
theorem sbeginC {key nonce : List UInt8} {c : Nat} (hk : key.length = 32) (hn : nonce.length = 12) (_hc : c < 4294967296) (H : Q (.agg (u32s (Go.Sha.start key nonce c)).toArray) S) :
  CallWp Tryz.prog B 203 #[.string (str key), .string (str nonce), .int .u32 (c : Int)] Q S := by
 refine CallWp.dropRet ?_
 refine Yx (args := [_, _, _]) Tryz.func203 Tryz.ntmps203 ?_
 refine Yq ?_
 refine Ya rfl rfl rfl rfl fun L1 hBL1 hLL1 => ?_
 refine OWp.nil ?_
 refine Yg 1 rfl ?_
 refine OWp.g rfl rfl (Gives.build rfl rfl) ?_
 refine Ya rfl rfl rfl rfl fun L2 hBL2 hLL2 => ?_
 refine OWp.step rfl (Step.storeAs 0 (u32s (r1 key c 0)) rfl rfl rfl rfl rfl hBL2 rfl (Unfz.zero _) rfl (Nat.le_of_ble_eq_true rfl) (by rfl) rfl ?_)
 refine OWp.nil ?_
 refine Wp.seq ?_
 refine Yn 1 rfl ?_
 refine Wp.block ?_
 refine Wp.loopS (α := Nat) (fun i => 8 - i) (fun i => [(0, .string (str key)), (1, .string (str nonce)), (6, pt L1), (7, pt L2), (12, .int .i64 (i : Int))]) (fun i => (L2, cel (u32s (r1 key c i)) 341) :: (L1, cel (u32s (List.replicate 16 0)) 341) :: S) (fun i => i ≤ 8) 0 ?_ (.refl _) (Nat.zero_le _) ?_
 ·exact .cons rfl (.cons rfl (.cons rfl (.cons rfl (.cons rfl (.nil _)))))
 intro i hi
 refine Yn 1 rfl ?_
 refine Wp.seq ?_
 refine Wp.cond rfl (fun h1 => ?_) (fun h1 => ?_)
 ·have h1 := of_decide_eq_true h1
  have hi2 : i < 8 := by omega
  refine Wp.skip ?_
  refine Wp.seq ?_
  refine Wp.block ?_
  refine Yn 2 rfl ?_
  refine Wp.region ?_
  refine Ye 5 rfl ?_
  refine OWp.g rfl rfl (Gives.sliceStr (l := (4 * i)) (h' := key.length) rfl rfl rfl ⟨_, _, rfl, i64_mul (c := 4) (by omega)⟩ rfl (by omega) (by omega)) ?_
  refine Yc rfl rfl (wordEqC (s := key.drop (4 * i)) (List.take_of_length_le (by rw [List.length_drop]; exact Nat.le_refl _)) (by rw [List.length_drop]; omega) ?_)
  refine OWp.g rfl rfl (Gives.indexAddrArr ((4 + i)) rfl rfl rfl rfl rfl (by rw [i64_id (by omega) (by omega)]; rfl) (by omega)) ?_
  refine OWp.step rfl (Step.storeAs 0 (u32s (r1 key c (i + 1))) rfl rfl rfl rfl rfl hBL2 rfl (Unfz.zero _) rfl (by rw [u32s_length, r1_len key c (by omega)]; show 0 + (4 + i) * 1 + 1 ≤ 16; omega) (by rw [← r1_set key c (by omega)]; exact u32s_set (by rw [r1_len key c (by omega)]; omega) (by show 0 + (4 + i) * 1 = 4 + i; omega)) rfl ?_)
  refine OWp.nil ?_
  refine Wp.region ?_
  refine Yz 2 rfl ?_
  exact ⟨i + 1, by omega, by omega, .cons rfl (.cons rfl (.cons rfl (.cons rfl (.cons' rfl (int_eq (i64_inc (by omega))) (.nil _))))), .refl _⟩
 have h1 := of_decide_eq_false h1
 obtain rfl : i = 8 := by omega
 refine Wp.exit ?_
 refine Wp.seq ?_
 refine Yn 1 rfl ?_
 refine Wp.block ?_
 refine Wp.loopS (α := Nat) (fun i => 3 - i) (fun i => [(1, .string (str nonce)), (6, pt L1), (7, pt L2), (24, .int .i64 (i : Int))]) (fun i => (L2, cel (u32s (r2 key nonce c i)) 341) :: (L1, cel (u32s (List.replicate 16 0)) 341) :: S) (fun i => i ≤ 3) 0 ?_ (by rw [r1_r2 key nonce]) (Nat.zero_le _) ?_
 ·exact .cons rfl (.cons rfl (.cons rfl (.cons rfl (.nil _))))
 intro i hi
 refine Yn 1 rfl ?_
 refine Wp.seq ?_
 refine Wp.cond rfl (fun h2 => ?_) (fun h2 => ?_)
 ·have h2 := of_decide_eq_true h2
  have hi2 : i < 3 := by omega
  refine Wp.skip ?_
  refine Wp.seq ?_
  refine Wp.block ?_
  refine Yn 2 rfl ?_
  refine Wp.region ?_
  refine Ye 5 rfl ?_
  refine OWp.g rfl rfl (Gives.sliceStr (l := (4 * i)) (h' := nonce.length) rfl rfl rfl ⟨_, _, rfl, i64_mul (c := 4) (by omega)⟩ rfl (by omega) (by omega)) ?_
  refine Yc rfl rfl (wordEqC (s := nonce.drop (4 * i)) (List.take_of_length_le (by rw [List.length_drop]; exact Nat.le_refl _)) (by rw [List.length_drop]; omega) ?_)
  refine OWp.g rfl rfl (Gives.indexAddrArr ((13 + i)) rfl rfl rfl rfl rfl (by rw [i64_id (by omega) (by omega)]; rfl) (by omega)) ?_
  refine OWp.step rfl (Step.storeAs 0 (u32s (r2 key nonce c (i + 1))) rfl rfl rfl rfl rfl hBL2 rfl (Unfz.zero _) rfl (by rw [u32s_length, r2_len key nonce c (by omega)]; show 0 + (13 + i) * 1 + 1 ≤ 16; omega) (by rw [← r2_set key nonce c (by omega)]; exact u32s_set (by rw [r2_len key nonce c (by omega)]; omega) (by show 0 + (13 + i) * 1 = 13 + i; omega)) rfl ?_)
  refine OWp.nil ?_
  refine Wp.region ?_
  refine Yz 2 rfl ?_
  exact ⟨i + 1, by omega, by omega, .cons rfl (.cons rfl (.cons rfl (.cons' rfl (int_eq (i64_inc (by omega))) (.nil _)))), .refl _⟩
 have h2 := of_decide_eq_false h2
 obtain rfl : i = 3 := by omega
 rw [r2_start]
 obtain ⟨x, hx⟩ : ∃ x, x = Go.Sha.start key nonce c := ⟨_, rfl⟩
 have hxl : x.length = 16 := by rw [hx]; exact start_len _ _ _
 rw [← hx] at H ⊢
 refine Wp.exit ?_
 refine Yq ?_
 refine OWp.load (.head _) rfl rfl rfl rfl (u32s_agg hxl) ?_
 refine OWp.step rfl (Step.storeAs 1 (u32s x) rfl rfl rfl rfl rfl hBL1 (by show some 16 = some (u32s x).length; rw [u32s_length, hxl]) (Unfz.zero _) (u32s_one x) (by rw [u32s_length]; show 0 + (u32s x).length ≤ _; rw [u32s_length, hxl, List.length_replicate]; exact Nat.le_refl _) (wr_all (X := u32s x) (by rw [u32s_length, u32s_length, hxl, List.length_replicate])) rfl ?_)
 have hp : Lg.partAt Tryz.prog 341 (u32s x) 0 = some (.agg (u32s x).toArray) := u32s_agg hxl
 refine OWp.nil ?_
 refine Wp.ret ⟨trivial, _, ⟨_, _, _, _, rfl, rfl, ⟨_, _, _, mems, (by first | assumption | rfl)⟩, rfl⟩, ?_⟩
 exact ⟨S, subl, H⟩
end
end Go.Proofs.D

namespace Go.Proofs.D
open Go.Lg Go.Sha
set_option maxRecDepth 100000

/-- Byte i of a block. -/
def sb (s : List Nat) (i : Nat) : UInt8 := UInt8.ofNat (add (s.getD (i / 4) 0) ((turned 10 s).getD (i / 4) 0) / 2 ^ (i % 4 * 8))
theorem turned_good : ∀ (n : Nat) {s : List Nat}, Good s → Good (turned n s)
 | 0, _, h => h
 | n + 1, s, h => turned_good n (s := twice s) (by rw [← half_two]; exact half_good h 2)
theorem lebytes_get (x : Nat) {k : Nat} (h : k < 4) : (lebytes x)[k]? = some (UInt8.ofNat (x / 2 ^ (k * 8))) := by
 match k, h with
 | 0, _ => simp [lebytes]
 | 1, _ => rfl
 | 2, _ => rfl
 | 3, _ => rfl
theorem flat_get : ∀ (l : List Nat) (i : Nat), i < 4 * l.length → (l.flatMap lebytes)[i]? = some (UInt8.ofNat (l.getD (i / 4) 0 / 2 ^ (i % 4 * 8)))
 | [], i, h => by simp at h
 | x :: l, i, h => by
  have hl : (lebytes x).length = 4 := rfl
  rw [List.flatMap_cons]
  by_cases hi : i < 4
  ·rw [List.getElem?_append_left (by rw [hl]; exact hi), lebytes_get x hi, Nat.div_eq_of_lt hi, Nat.mod_eq_of_lt hi]; rfl
  ·obtain ⟨j, rfl⟩ : ∃ j, i = j + 4 := ⟨i - 4, by omega⟩
   rw [List.getElem?_append_right (by rw [hl]; omega), hl, Nat.add_sub_cancel, flat_get l j (by simp only [List.length_cons] at h; omega), Nat.add_div_right _ (by decide), Nat.add_mod_right]
   rfl
theorem sblock_range {s : List Nat} (hs : Good s) : sblock s = (List.range 64).map (sb s) := by
 have ht := turned_good 10 hs
 apply List.ext_getElem?
 intro i
 have hz : (List.zipWith add s (turned 10 s)).length = 16 := by simp [hs.1, ht.1]
 by_cases hi : i < 64
 ·unfold sblock
  rw [flat_get _ i (by rw [hz]; omega)]
  have e : (List.zipWith add s (turned 10 s)).getD (i / 4) 0 = add (s.getD (i / 4) 0) ((turned 10 s).getD (i / 4) 0) := by
   have h1 : i / 4 < s.length := by rw [hs.1]; omega
   have h2 : i / 4 < (turned 10 s).length := by rw [ht.1]; omega
   simp [List.getD_eq_getElem?_getD, List.getElem?_zipWith, h1, h2]
  rw [e]
  simp [sb, hi]
 ·rw [List.getElem?_eq_none (by rw [sblock_len hs.1]; omega), List.getElem?_eq_none (by simp; omega)]

section
variable {B : Nat} {S R : Ents} {Q : Value → Ents → Prop}

theorem sbytes_step (s : List Nat) (i : Nat) (z : Int) (hz : z = ((add (s.getD (i / 4) 0) ((turned 10 s).getD (i / 4) 0) : Nat) : Int)) : IntKind.u8.wrap (z.fdiv (2 ^ (min (i % 4 * 8) IntKind.u32.bits))) = ((sb s i).toNat : Int) := by
 subst hz
 have hm := Nat.mod_lt i (show 4 > 0 by decide)
 have e : min (i % 4 * 8) IntKind.u32.bits = i % 4 * 8 := by show min _ 32 = _; omega
 unfold sb
 rw [e, Int.fdiv_eq_ediv_of_nonneg _ (by exact Int.le_of_lt (Int.pow_pos (by decide))), IntKind.wrap_u8, UInt8.toNat_ofNat']
 generalize add _ _ = y
 have : (y : Int) / 2 ^ (i % 4 * 8) = ((y / 2 ^ (i % 4 * 8) : Nat) : Int) := by simp
 rw [this]
 omega

theorem bytes_agg {x : List UInt8} (hx : x.length = 64) : Lg.partAt Tryz.prog 273 (byteCells x) 0 = some (.agg (byteCells x).toArray) :=
 partAt_agg (n := 64) (r := byteCells x) (by rw [List.drop_zero, List.take_of_length_le (by rw [byteCells_length, hx]; exact Nat.le_refl _)]) rfl rfl (by rw [byteCells_length]; exact hx)

set_option maxHeartbeats 1000000 in
theorem sbytesC {s : List Nat} (hs : Good s) (H : Q (.agg (byteCells (sblock s)).toArray) S) :
  CallWp Tryz.prog B 204 #[.agg (u32s s).toArray] Q S := by
 refine CallWp.dropRet ?_
 refine Yx (args := [_]) Tryz.func204 Tryz.ntmps204 ?_
 refine Yq ?_
 refine Yb rfl rfl rfl rfl fun L1 hBL1 hLL1 => ?_
 refine Ya rfl rfl rfl rfl fun L2 hBL2 hLL2 => ?_
 refine OWp.nil ?_
 refine Yq ?_
 refine OWp.load (.tail _ (.head _)) rfl rfl rfl rfl (u32s_agg hs.1) ?_
 refine Yc rfl rfl (turnedC hs ?_)
 obtain ⟨t, ht⟩ : ∃ t, t = turned 10 s := ⟨_, rfl⟩
 have htg : Good t := ht ▸ turned_good 10 hs
 rw [← ht]
 refine Ya rfl rfl rfl rfl fun L3 hBL3 hLL3 => ?_
 refine OWp.step rfl (Step.storeAs 0 (u32s t) rfl rfl rfl rfl rfl hBL3 (by show some 16 = some (u32s t).length; rw [u32s_length, htg.1]) (Unfz.zero _) (u32s_one t) (by show 0 + (u32s t).length ≤ 16; rw [u32s_length, htg.1]; decide) (wr_all (X := u32s t) (by rw [u32s_length, htg.1]; rfl)) rfl ?_)
 refine OWp.nil ?_
 refine Yq ?_
 refine Ya rfl rfl rfl rfl fun L4 hBL4 hLL4 => ?_
 refine OWp.nil ?_
 refine Wp.seq ?_
 refine Yn 1 rfl ?_
 refine Wp.block ?_
 refine Wp.loopS (α := Nat) (fun i => 64 - i) (fun i => [(1, pt L1), (2, pt L2), (3, pt L3), (4, pt L4), (8, .int .i64 (i : Int))]) (fun i => (L4, cel (byteCells ((List.range i).map (sb s) ++ List.replicate (64 - i) 0)) 273) :: (L3, cel (u32s t) 341) :: (L2, cel (byteCells (List.replicate 64 0)) 273) :: (L1, cel (u32s s) 341) :: S) (fun i => i ≤ 64) 0 ?_ (.refl _) (Nat.zero_le _) ?_
 ·exact .cons rfl (.cons rfl (.cons rfl (.cons rfl (.cons rfl (.nil _)))))
 intro i hi
 refine Yn 1 rfl ?_
 refine Wp.seq ?_
 refine Wp.cond rfl (fun h1 => ?_) (fun h1 => ?_)
 ·have h1 := of_decide_eq_true h1
  have hi2 : i < 64 := by omega
  refine Wp.skip ?_
  refine Wp.seq ?_
  refine Wp.block ?_
  refine Yn 2 rfl ?_
  refine Wp.regionDraw [0, 1, 2, 3, 4, 5, 6, 7, 8, 9, 10, 11, 12, 13, 14, 15, 16] [16] rfl (by decide +kernel) ?_
  refine DWp.evs 3 rfl ?_
  refine DWp.g rfl rfl rfl rfl (Gives.indexAddrArr ((i / 4)) rfl rfl rfl rfl rfl (q4 (by omega)) (by omega)) ?_
  refine DWp.load (.tail _ (.tail _ (.tail _ (.head _)))) rfl rfl rfl rfl rfl rfl (u32s_part (by rw [hs.1]; omega)) ?_
  refine DWp.evs 2 rfl ?_
  refine DWp.g rfl rfl rfl rfl (Gives.indexAddrArr ((i / 4)) rfl rfl rfl rfl rfl (q4 (by omega)) (by omega)) ?_
  refine DWp.load (.tail _ (.head _)) rfl rfl rfl rfl rfl rfl (u32s_part (by rw [htg.1]; omega)) ?_
  refine DWp.evs 4 rfl ?_
  refine DWp.g rfl rfl rfl rfl (Gives.shr (m := i % 4 * 8) rfl rfl rfl (by show IntKind.i64.wrap ((i : Int) % 4 * 8) = _; rw [i64_id (by omega) (by omega)]; omega)) ?_
  refine DWp.evs 1 rfl ?_
  refine DWp.g rfl rfl rfl rfl (Gives.indexAddrArr (i) rfl rfl rfl rfl rfl rfl (by omega)) ?_
  refine DWp.stepAll rfl rfl rfl rfl (Step.storeAs 0 (byteCells ((List.range (i + 1)).map (sb s) ++ List.replicate (64 - (i + 1)) 0)) rfl rfl rfl rfl rfl hBL4 rfl (Unfz.zero _) rfl (by rw [byteCells_length]; simp only [List.length_append, List.length_map, List.length_range, List.length_replicate]; show 0 + i * 1 + 1 ≤ _; omega) (by rw [sbytes_step s i _ (by rw [u32_add, ← ht]; rfl)]; exact row_set (sb s) hi2 (by show 0 + i * 1 = i; omega)) rfl ?_)
  refine DWp.nil ?_
  refine Wp.region ?_
  refine Yz 2 rfl ?_
  exact ⟨i + 1, by omega, by omega, .cons rfl (.cons rfl (.cons rfl (.cons rfl (.cons' rfl (int_eq (i64_inc (by omega))) (.nil _))))), .refl _⟩
 have h1 := of_decide_eq_false h1
 obtain rfl : i = 64 := by omega
 rw [Nat.sub_self, List.replicate_zero, List.append_nil, ← sblock_range hs]
 obtain ⟨x, hx⟩ : ∃ x, x = sblock s := ⟨_, rfl⟩
 have hxl : x.length = 64 := by rw [hx]; exact sblock_len hs.1
 rw [← hx] at H ⊢
 refine Wp.exit ?_
 refine Yq ?_
 refine OWp.load (.head _) rfl rfl rfl rfl (bytes_agg hxl) ?_
 refine OWp.step rfl (Step.storeAs 2 (byteCells x) rfl rfl rfl rfl rfl hBL2 (by show some 64 = some (byteCells x).length; rw [byteCells_length, hxl]) (Unfz.zero _) (byteCells_one x) (by show 0 + (byteCells x).length ≤ _; rw [byteCells_length, byteCells_length, hxl, List.length_replicate]; decide) (wr_all (X := byteCells x) (by rw [byteCells_length, byteCells_length, hxl, List.length_replicate])) rfl ?_)
 have hp : Lg.partAt Tryz.prog 273 (byteCells x) 0 = some (.agg (byteCells x).toArray) := bytes_agg hxl
 refine OWp.nil ?_
 refine Wp.ret ⟨trivial, _, ⟨_, _, _, _, rfl, rfl, ⟨_, _, _, mems, (by first | assumption | rfl)⟩, rfl⟩, ?_⟩
 exact ⟨S, subl, H⟩
end
end Go.Proofs.D

namespace Go.Proofs.D
open Go.Lg Go.Sha
set_option maxRecDepth 100000

theorem blocks_get (key nonce : List UInt8) : ∀ (m c i : Nat), i < 64 * m → (blocks key nonce m c)[i]? = (cblock key nonce ((c + i / 64) % 4294967296))[i % 64]?
 | 0, _, i, h => by omega
 | m + 1, c, i, h => by
  have hl := cblock_len key nonce (c % 4294967296)
  rw [blocks]
  by_cases hi : i < 64
  ·rw [List.getElem?_append_left (by rw [hl]; exact hi), Nat.div_eq_of_lt hi, Nat.mod_eq_of_lt hi, Nat.add_zero]
  ·obtain ⟨j, rfl⟩ : ∃ j, i = j + 64 := ⟨i - 64, by omega⟩
   rw [List.getElem?_append_right (by rw [hl]; omega), hl, Nat.add_sub_cancel, blocks_get key nonce m (c + 1) j (by omega), Nat.add_div_right _ (by decide), Nat.add_mod_right, Nat.add_assoc, Nat.add_comm 1]
def xb (key nonce : List UInt8) (c : Nat) (text : List UInt8) (i : Nat) : UInt8 := text.getD i 0 ^^^ (cblock key nonce ((c + i / 64) % 4294967296)).getD (i % 64) 0
theorem xors_range (key nonce : List UInt8) (c : Nat) (text : List UInt8) : xors text (stream key nonce c text.length) = (List.range text.length).map (xb key nonce c text) := by
 apply List.ext_getElem?
 intro i
 have hl := stream_len key nonce c text.length
 by_cases hi : i < text.length
 ·have hs : (stream key nonce c text.length)[i]? = (cblock key nonce ((c + i / 64) % 4294967296))[i % 64]? := by
   unfold stream
   rw [List.getElem?_take_of_lt hi, blocks_get key nonce _ c i (by omega)]
  have hc : i % 64 < (cblock key nonce ((c + i / 64) % 4294967296)).length := by rw [cblock_len]; omega
  rw [List.getElem?_eq_getElem hc] at hs
  unfold xors
  rw [List.getElem?_zipWith, hs, List.getElem?_eq_getElem hi]
  simp [xb, hi, hc]
 ·rw [List.getElem?_eq_none (by simp [xors, hl]; omega), List.getElem?_eq_none (by simp; omega)]

theorem zeros_bytes : ∀ n : Nat, zeros [Value.int .u8 0] n = byteCells (List.replicate n 0)
 | 0 => rfl
 | n + 1 => by
  rw [zeros, zeros_bytes n, List.replicate_succ]; rfl
theorem start_count (key nonce : List UInt8) (c : Nat) : (Go.Sha.start key nonce c).getD 12 0 = c := by
 have h : (c4 ++ lewords 8 key).length = 12 := by simp [c4, lewords_len]
 have e : Go.Sha.start key nonce c = (c4 ++ lewords 8 key) ++ c :: lewords 3 nonce := by simp [Go.Sha.start, c4]
 rw [e, List.getD_eq_getElem?_getD, List.getElem?_append_right (by rw [h]; decide), h]
 rfl
theorem start_turn (key nonce : List UInt8) (c d : Nat) : (Go.Sha.start key nonce c).set 12 d = Go.Sha.start key nonce d := by
 have h : (c4 ++ lewords 8 key).length = 12 := by simp [c4, lewords_len]
 have e : ∀ c, Go.Sha.start key nonce c = (c4 ++ lewords 8 key) ++ c :: lewords 3 nonce := fun c => by simp [Go.Sha.start, c4]
 rw [e c, e d, set_mid h.symm]

theorem sblock_start (key nonce : List UInt8) (c : Nat) : sblock (Go.Sha.start key nonce c) = cblock key nonce c := rfl
theorem blk_get {b : List UInt8} {i o : Nat} (hb : b.length = 64) (hi : i < 64) (ho : o = i) : (byteCells b)[o]? = some (Value.int .u8 ((b.getD i 0).toNat : Int)) := by
 subst ho
 simp [byteCells, hb, hi]
attribute [local irreducible] Go.Sha.start cblock
section
variable {B : Nat} {S R : Ents} {Q : Value → Ents → Prop}

theorem wrongC {key nonce : List UInt8} {c : Nat} (hk : key.length = 32) (hn : nonce.length = 12) (hc : c < 4294967296) (H : Q (.int .i64 0) S) :
  CallWp Tryz.prog B 184 #[.string (str key), .string (str nonce), .int .i64 (c : Int)] Q S := by
 refine Yx (args := [_, _, _]) Tryz.func184 Tryz.ntmps184 ?_
 refine Yn 1 rfl ?_
 refine Wp.seq ?_
 refine Wp.block ?_
 refine Yg 4 rfl ?_
 refine Du 11 rfl (by omega) fun cc1 => ?_
 refine Yz 5 rfl ?_
 refine Cu rfl (by omega) fun cc2 => ?_
 refine Yg 3 rfl ?_
 refine Dt 19 rfl (by omega) fun cc3 => ?_
 refine Yz 4 rfl ?_
 refine Ct rfl (by omega) fun cc4 => ?_
 refine Wp.skip ?_
 refine Yn 1 rfl ?_
 refine Wp.ret ⟨trivial, _, ⟨_, _, rfl, rfl, rfl⟩, ?_⟩
 exact H
theorem sbeginEqC {key nonce : List UInt8} {c : Nat} {z : Int} (hz : z = (c : Int)) (hk : key.length = 32) (hn : nonce.length = 12) (hc : c < 4294967296) (H : Q (.agg (u32s (Go.Sha.start key nonce c)).toArray) S) :
  CallWp Tryz.prog B 203 #[.string (str key), .string (str nonce), .int .u32 z] Q S := by
 subst hz; exact sbeginC hk hn hc H

theorem u32_one (a : Nat) : IntKind.u32.wrap ((a : Int) + 1) = (((a + 1) % 4294967296 : Nat) : Int) := by rw [IntKind.wrap_u32]; omega

set_option maxHeartbeats 1000000 in
theorem xorC {key nonce text : List UInt8} {c : Nat} (hk : key.length = 32) (hn : nonce.length = 12) (hc : c < 4294967296) (ht : text.length ≤ 65536) (H : Q (.tuple #[.string (str (xors text (stream key nonce c text.length))), .int .i64 0]) S) :
  CallWp Tryz.prog B 185 #[.string (str key), .string (str nonce), .int .i64 (c : Int), .string (str text)] Q S := by
 obtain ⟨n, hn2⟩ : ∃ n, n = text.length := ⟨_, rfl⟩
 rw [xors_range] at H
 rw [← hn2] at ht H
 refine CallWp.dropRet ?_
 refine Yx (args := [_, _, _, _]) Tryz.func185 Tryz.ntmps185 ?_
 refine Yn 2 rfl ?_
 refine Wp.seq ?_
 refine Yg 3 rfl ?_
 refine Yc rfl rfl (wrongC hk hn hc ?_)
 refine Yz 1 rfl ?_
 refine Yn 2 rfl ?_
 refine Cu rfl (by omega) fun cc1 => ?_
 refine Wp.skip ?_
 refine Wp.seq ?_
 refine Yn 3 rfl ?_
 refine Ct rfl (by omega) fun cc2 => ?_
 refine Wp.skip ?_
 refine Yg 4 rfl ?_
 refine Yc rfl rfl (sbeginEqC (c := c) (by rw [IntKind.wrap_u32]; omega) hk hn hc ?_)
 refine Ya rfl rfl rfl rfl fun L1 hBL1 hLL1 => ?_
 refine OWp.step rfl (Step.storeAs 0 (u32s (Go.Sha.start key nonce c)) rfl rfl rfl rfl rfl hBL1 (by show some 16 = some (u32s _).length; rw [u32s_length, start_len]) (Unfz.zero _) (u32s_one _) (by show 0 + (u32s (Go.Sha.start key nonce c)).length ≤ 16; rw [u32s_length, start_len]; decide) (wr_all (X := u32s (Go.Sha.start key nonce c)) (by rw [u32s_length, start_len]; rfl)) rfl ?_)
 refine OWp.nil ?_
 refine Yq ?_
 refine Ya rfl rfl rfl rfl fun L2 hBL2 hLL2 => ?_
 refine OWp.nil ?_
 refine Yg 2 rfl ?_
 refine OWp.step rfl (Step.makeSlice (len := n) (cap := n) rfl rfl rfl rfl rfl rfl (by decide) (by rw [hn2]; rfl) (by rw [hn2]; rfl) (Nat.le_refl _) (by show 1 * n ≤ _; omega) (by omega) ?_)
 intro L3 hBL3 hLL3
 rw [show zeros (cellsOf (Value.int .u8 0)) n = byteCells (List.replicate n 0) from zeros_bytes n]
 refine Yz 1 rfl ?_
 refine Wp.seq ?_
 refine Yn 3 rfl ?_
 refine Wp.block ?_
 refine Wp.loopS (α := Nat) (fun i => n - i) (fun i => [(3, .string (str text)), (11, pt L1), (12, pt L2), (13, .slice (some ⟨L3, 0, none⟩) n n), (35, .int .i64 (n : Int)), (36, .int .i64 (i : Int))]) (fun i => (L3, cel (byteCells ((List.range i).map (xb key nonce c text) ++ List.replicate (n - i) 0)) 5) :: (L2, cel (byteCells (if i = 0 then List.replicate 64 0 else cblock key nonce ((c + (i - 1) / 64) % 4294967296))) 273) :: (L1, cel (u32s (Go.Sha.start key nonce ((c + (i + 63) / 64) % 4294967296))) 341) :: S) (fun i => i ≤ n) 0 ?_ (by rw [if_pos rfl, show (c + (0 + 63) / 64) % 4294967296 = c by omega]; exact .refl _) (Nat.zero_le _) ?_
 ·exact .cons rfl (.cons rfl (.cons rfl (.cons rfl (.cons rfl (.cons rfl (.nil _))))))
 intro i hi
 refine Yn 1 rfl ?_
 refine Wp.seq ?_
 refine Wp.cond rfl (fun h1 => ?_) (fun h1 => ?_)
 ·have h1 := of_decide_eq_true h1
  have hi2 : i < n := by omega
  obtain ⟨ct, hct⟩ : ∃ ct, ct = (c + i / 64) % 4294967296 := ⟨_, rfl⟩
  refine Wp.skip ?_
  refine Wp.seq ?_
  refine Wp.block ?_
  refine Yn 2 rfl ?_
  refine Yn 3 rfl ?_
  refine Wp.seqS (α := Unit) (fun _ => [(3, .string (str text)), (11, pt L1), (12, pt L2), (13, .slice (some ⟨L3, 0, none⟩) n n), (35, .int .i64 (n : Int)), (36, .int .i64 (i : Int)), (14, .int .i64 (i : Int)), (15, .int .i64 ((i % 64 : Nat) : Int))]) (fun _ => (L3, cel (byteCells ((List.range i).map (xb key nonce c text) ++ List.replicate (n - i) 0)) 5) :: (L2, cel (byteCells (cblock key nonce ct)) 273) :: (L1, cel (u32s (Go.Sha.start key nonce ((c + i / 64 + 1) % 4294967296))) 341) :: S) (fun _ => True) ?_ ?_
  ·skip
   refine Yn 2 rfl ?_
   refine Wp.cond rfl (fun k1 => ?_) (fun k1 => ?_)
   ·have k1 := of_decide_eq_true k1
    have k2 : i % 64 = 0 := by
     have k3 : ((i % 64 : Nat) : Int) = 0 := k1
     omega
    have hcount : (c + (i + 63) / 64) % 4294967296 = ct := by rw [hct, show (i + 63) / 64 = i / 64 by omega]
    have hcl : ct < 4294967296 := hct ▸ Nat.mod_lt _ (by decide)
    have hbl : (if i = 0 then List.replicate 64 0 else cblock key nonce ((c + (i - 1) / 64) % 4294967296)).length = 64 := by split <;> simp [cblock_len]
    rw [hcount]
    generalize (if i = 0 then List.replicate 64 0 else cblock key nonce ((c + (i - 1) / 64) % 4294967296)) = ob at *
    refine Yq ?_
    refine OWp.load (.tail _ (.tail _ (.head _))) rfl rfl rfl rfl (u32s_agg (start_len _ _ _)) ?_
    refine Yc rfl rfl (sbytesC (start_good key nonce hcl) ?_)
    rw [sblock_start]
    refine OWp.step rfl (Step.storeAs 1 (byteCells (cblock key nonce ct)) rfl rfl rfl rfl rfl hBL2 (by show some 64 = some (byteCells _).length; rw [byteCells_length, cblock_len]) (Unfz.zero _) (byteCells_one _) (by show 0 + (byteCells (cblock key nonce ct)).length ≤ _; rw [byteCells_length, byteCells_length, cblock_len, hbl]; decide) (wr_all (X := byteCells (cblock key nonce ct)) (by rw [byteCells_length, byteCells_length, cblock_len, hbl])) rfl ?_)
    refine OWp.nil ?_
    refine Wp.region ?_
    refine OWp.g rfl rfl (Gives.indexAddrArr (12) rfl rfl rfl rfl rfl rfl (by omega)) ?_
    refine OWp.load (.tail _ (.tail _ (.head _))) rfl rfl rfl rfl (u32s_part (by rw [start_len]; decide)) ?_
    refine Ye 1 rfl ?_
    refine OWp.g rfl rfl (Gives.indexAddrArr (12) rfl rfl rfl rfl rfl rfl (by omega)) ?_
    refine OWp.step rfl (Step.storeAs 2 (u32s (Go.Sha.start key nonce ((c + i / 64 + 1) % 4294967296))) rfl rfl rfl rfl rfl hBL1 rfl (Unfz.zero _) rfl (by rw [u32s_length, start_len]; show 0 + 12 * 1 + 1 ≤ 16; decide) (by rw [start_count, u32_one]; exact (u32s_set (i := 12) (by rw [start_len]; decide) rfl).trans (by rw [start_turn, show (c + i / 64 + 1) % 4294967296 = (ct + 1) % 4294967296 by omega])) rfl ?_)
    refine OWp.nil ?_
    exact ⟨(), trivial, .cons rfl (.cons rfl (.cons rfl (.cons rfl (.cons rfl (.cons rfl (.cons rfl (.cons' rfl rfl (.nil _)))))))), .refl _⟩
   have k1 := of_decide_eq_false k1
   have k2 : ¬ i % 64 = 0 := fun k3 => k1 (show ((i % 64 : Nat) : Int) = 0 by omega)
   refine Wp.skip ?_
   refine ⟨(), trivial, .cons rfl (.cons rfl (.cons rfl (.cons rfl (.cons rfl (.cons rfl (.cons rfl (.cons' rfl rfl (.nil _)))))))), ?_⟩
   rw [if_neg (by omega), show (i - 1) / 64 = i / 64 by omega, show (c + (i + 63) / 64) = c + i / 64 + 1 by omega, ← hct]
  rintro ⟨⟩ -
  refine Wp.regionDraw [0, 1, 2, 3, 4, 5, 6, 7, 8, 9, 10] [10] rfl (by decide +kernel) ?_
  refine DWp.evs 4 rfl ?_
  refine DWp.g rfl rfl rfl rfl (Gives.indexStr (b := (text.getD i 0)) rfl rfl rfl rfl (by omega) (by show text[i]? = _; rw [List.getElem?_eq_getElem (by omega)]; simp [List.getD_eq_getElem?_getD, show i < text.length by omega])) ?_
  refine DWp.evs 1 rfl ?_
  refine DWp.g rfl rfl rfl rfl (Gives.indexAddrArr ((i % 64)) rfl rfl rfl rfl rfl rfl (by omega)) ?_
  refine DWp.load (.tail _ (.head _)) rfl rfl rfl rfl rfl rfl (blk_get (cblock_len key nonce ct) (Nat.mod_lt _ (by decide)) (by show 0 + i % 64 * 1 = i % 64; omega)) ?_
  refine DWp.evs 1 rfl ?_
  refine DWp.g rfl rfl rfl rfl (Gives.indexAddrSlice (i) rfl rfl rfl rfl rfl rfl (by omega)) ?_
  refine DWp.stepAll rfl rfl rfl rfl (Step.storeAs 0 (byteCells ((List.range (i + 1)).map (xb key nonce c text) ++ List.replicate (n - (i + 1)) 0)) rfl rfl rfl rfl rfl hBL3 rfl (Unfz.zero _) rfl (by rw [byteCells_length]; simp only [List.length_append, List.length_map, List.length_range, List.length_replicate]; show 0 + i * 1 + 1 ≤ _; omega) (by rw [xor8, hct]; exact row_set (xb key nonce c text) hi2 (by show 0 + i * 1 = i; omega)) rfl ?_)
  refine DWp.nil ?_
  refine Wp.region ?_
  refine Yz 2 rfl ?_
  refine ⟨i + 1, by omega, by omega, .cons rfl (.cons rfl (.cons rfl (.cons rfl (.cons rfl (.cons' rfl (int_eq (i64_inc (by omega))) (.nil _)))))), ?_⟩
  rw [if_neg (by omega), Nat.add_sub_cancel, ← hct, show c + (i + 1 + 63) / 64 = c + i / 64 + 1 by omega]
 have h1 := of_decide_eq_false h1
 obtain rfl : i = n := by omega
 rw [Nat.sub_self, List.replicate_zero, List.append_nil]
 obtain ⟨z, hz⟩ : ∃ z, z = (List.range i).map (xb key nonce c text) := ⟨_, rfl⟩
 have hzl : z.length = i := by rw [hz]; simp
 rw [← hz] at H ⊢
 refine Wp.drop (S' := (L3, cel (byteCells z) 5) :: S) (List.Sublist.cons_cons _ (List.Sublist.cons _ (List.Sublist.cons _ (List.Sublist.refl _)))) ?_
 refine Wp.exit ?_
 refine Yg 1 rfl ?_
 refine OWp.gives rfl rfl (Gives.bytesToStr (F := (L3, cel (byteCells z) 5) :: S) (l := z) (k := i) rfl rfl rfl rfl rfl (by have := Reads.row (S := (L3, cel (byteCells z) 5) :: S) (sz := 1) (k := i) (cap := i) (.head _) (by rw [byteCells_length, hzl]; omega); rw [List.take_of_length_le (by rw [byteCells_length, hzl]; omega)] at this; exact this)) (fun _ h => h) ?_
 refine Yz 2 rfl ?_
 refine Wp.ret ⟨trivial, _, ⟨_, _, rfl, rfl, _, _, rfl, rfl, rfl⟩, ?_⟩
 exact ⟨S, subl, H⟩
end
end Go.Proofs.D
