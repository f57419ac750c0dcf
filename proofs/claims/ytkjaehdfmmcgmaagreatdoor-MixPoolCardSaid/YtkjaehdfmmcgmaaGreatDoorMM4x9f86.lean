/- What functions of the given program do, one after the other, told by that layer. -/
import Derived.Test.YtkjaehdfmmcgmaaGreatDoorMHash5
import Derived.Test.YtkjaehdfmmcgmaaGreatDoorLgBld
namespace Go.Proofs.D
open Go.Lg Go.Sha
set_option maxRecDepth 100000

/-- A builder that a call has made: its block and its bytes. -/
def Bd (B b : Nat) (x : List UInt8) (es : Ents) : Prop :=
 B ≤ b ∧ ∃ adr v ys, (adr = Value.pointer none ∨ adr = pt b) ∧ es = (b, cel [adr, v] 169) :: ys ∧ OwnF B 5 v x ys

section
variable {B : Nat} {S R : Ents} {Q : Value → Ents → Prop}

theorem checkC {b : Nat} {adr v : Value} (hB : B ≤ b) (ha : adr = Value.pointer none ∨ adr = pt b) (H : Q (.tuple #[]) ((b, cel [pt b, v] 169) :: R)) :
  CallWp Tryz.prog B 115 #[pt b] Q ((b, cel [adr, v] 169) :: R) := by
 rcases ha with rfl | rfl
 ·skip
  refine Yx (args := [_]) Tryz.func115 Tryz.ntmps115 ?_
  refine Yg 3 rfl ?_
  refine Yl m0 ?_
  refine Yz 1 rfl ?_
  refine Cy rfl ?_
  refine Wp.region ?_
  refine Ye 2 rfl ?_
  refine OWp.gives rfl rfl (Gives.toUnsafe (e := 169) (l := [Value.pointer none, v]) (fz := (0, 0)) rfl rfl rfl rfl rfl (by decide) (Nat.zero_lt_succ 1)) sub1 ?_
  refine OWp.step rfl (Step.noEscape rfl rfl rfl rfl rfl rfl rfl rfl rfl rfl ?_)
  refine OWp.gives rfl rfl (Gives.ofUnsafe (e := 169) (l := [Value.pointer none, v]) (fz := (0, 0)) rfl rfl rfl rfl rfl (by show liesAt _ _ _ (2 / _) _ _ _ = true; decide +kernel)) sub1 ?_
  refine Ye 2 rfl ?_
  refine OWp.step rfl (Step.store 0 rfl rfl rfl rfl rfl hB rfl (Nat.le_of_ble_eq_true rfl) (Unfz.zero _) rfl rfl ?_)
  refine OWp.nil ?_
  refine ⟨trivial, [], rfl, ?_⟩
  exact H
 ·skip
  refine Yx (args := [_]) Tryz.func115 Tryz.ntmps115 ?_
  refine Yg 3 rfl ?_
  refine Yl m0 ?_
  refine Yz 1 rfl ?_
  refine Cn rfl ?_
  refine Yg 3 rfl ?_
  refine Yl m0 ?_
  refine Ye 1 rfl ?_
  refine OWp.g rfl rfl (Gives.neqSame rfl rfl rfl rfl rfl) ?_
  refine OWp.nil ?_
  refine Cn rfl ?_
  refine Wp.skip ?_
  refine ⟨trivial, [], rfl, ?_⟩
  exact H
theorem _root_.Go.Lg.OwnF.form {e : TypeId} {v : Value} {x : List UInt8} {ys : Ents} (h : OwnF B e v x ys) : ∃ q c, v = .slice q x.length c ∧ (q = none ∨ 0 < c) := by
 rcases h with ⟨rfl, rfl, _⟩ | ⟨_, _, _, _, rfl, _, _, _, h, _⟩
 ·exact ⟨_, _, rfl, .inl rfl⟩
 ·exact ⟨_, _, rfl, .inr h⟩

theorem bLenC {b : Nat} {x : List UInt8} {es : Ents} (h : Bd B b x es) (H : Q (.int .i64 (x.length : Int)) (es ++ R)) :
  CallWp Tryz.prog B 64 #[pt b] Q (es ++ R) := by
 obtain ⟨hB, adr, v, ys, ha, rfl, ho⟩ := h
 obtain ⟨q, c, rfl, _⟩ := ho.form
 refine Yx (args := [_]) Tryz.func64 Tryz.ntmps64 ?_
 refine Yn 1 rfl ?_
 refine Yg 3 rfl ?_
 refine Yl m0 ?_
 refine Yz 2 rfl ?_
 refine Wp.ret ⟨trivial, _, ⟨_, _, rfl, rfl, rfl⟩, ?_⟩
 exact H
theorem bWriteC {b : Nat} {x s : List UInt8} {es : Ents} (h : Bd B b x es) (hl : x.length + s.length ≤ 140737488355328) (H : ∀ es', Bd B b (x ++ s) es' → Q (.tuple #[.int .i64 (s.length : Int), .nilIface]) (es' ++ R)) :
  CallWp Tryz.prog B 66 #[pt b, .string (str s)] Q (es ++ R) := by
 obtain ⟨hB, adr, v, ys, ha, rfl, ho⟩ := h
 refine Yx (args := [_, _]) Tryz.func66 Tryz.ntmps66 ?_
 refine Yn 2 rfl ?_
 refine Yg 1 rfl ?_
 refine Yc rfl rfl (checkC hB ha ?_)
 refine OWp.nil ?_
 refine Yg 4 rfl ?_
 refine Yl m0 ?_
 refine Ye 1 rfl ?_
 refine OWp.step rfl (Step.appendF (R := (b, cel [pt b, v] 169) :: R) rfl rfl rfl rfl rfl rfl rfl rfl rfl rfl (fun _ h => h.perm List.perm_middle.symm) ho hl ?_)
 intro v' ys' ho'
 refine OWp.permS List.perm_middle ?_
 obtain ⟨q', c', rfl, _⟩ := ho'.form
 refine Ye 2 rfl ?_
 refine OWp.step rfl (Step.store 0 rfl rfl rfl rfl rfl hB rfl (Nat.le_of_ble_eq_true rfl) (Unfz.zero _) rfl rfl ?_)
 refine OWp.nil ?_
 refine Yn 4 rfl ?_
 refine Wp.ret ⟨trivial, _, ⟨_, _, rfl, rfl, _, _, rfl, rfl, rfl⟩, ?_⟩
 exact H ((b, cel [pt b, .slice q' (x ++ s).length c'] 169) :: ys') ⟨hB, _, _, _, .inr rfl, rfl, ho'⟩
theorem bStringC {b : Nat} {x : List UInt8} {es : Ents} (h : Bd B b x es) (H : ∀ es', Bd B b x es' → Q (.string (str x)) (es' ++ R)) :
  CallWp Tryz.prog B 67 #[pt b] Q (es ++ R) := by
 obtain ⟨hB, adr, v, ys, ha, rfl, ho⟩ := h
 obtain ⟨q, c, rfl, hq⟩ := ho.form
 refine Yx (args := [_]) Tryz.func67 Tryz.ntmps67 ?_
 refine Yn 1 rfl ?_
 refine Wp.seq (Wp.regionDraw [0, 1, 2, 3, 5, 6, 7, 8, 9, 4, 10, 11] [4, 10] rfl (by decide +kernel) ?_)
 refine DWp.evs 3 rfl ?_
 refine Yd m0 ?_
 refine DWp.evs 3 rfl ?_
 refine Yd m0 ?_
 refine DWp.evs 1 rfl ?_
 refine DWp.stepGrow rfl rfl rfl (Step.sliceData rfl rfl rfl rfl hq ?_); refine ⟨fun _ hy => hy, ?_⟩
 refine DWp.stepAll rfl rfl rfl rfl (Step.unsafeStr (R := (b, cel [adr, .slice q x.length c] 169) :: R) rfl rfl rfl rfl rfl rfl rfl (fun _ h => h.perm List.perm_middle.symm) ho ?_)
 intro ys' ho'
 refine DWp.evs 1 rfl ?_
 refine DWp.nil ?_
 refine Wp.weaken (.refl _) (fun _ h => h.perm List.perm_middle) ?_
 refine Wp.ret ⟨trivial, _, ⟨_, _, rfl, rfl, rfl⟩, ?_⟩
 exact H ((b, cel [adr, .slice q x.length c] 169) :: ys') ⟨hB, _, _, _, ha, rfl, ho'⟩
theorem bGrowC {b n : Nat} (hB : B ≤ b) (h0 : 0 < n) (hn : n ≤ 281474976710656) (H : ∀ es', Bd B b [] es' → Q (.tuple #[]) (es' ++ R)) :
  CallWp Tryz.prog B 183 #[pt b, .int .i64 (n : Int)] Q ((b, cel [pt b, .slice none 0 0] 169) :: R) := by
 refine Yx (args := [_, _]) Tryz.func183 Tryz.ntmps183 ?_
 refine Wp.seq (Wp.regionDraw [0, 1, 2, 3, 4, 5, 6, 7, 9, 10, 11, 12, 13, 8, 14, 15] [8] rfl (by decide +kernel) ?_)
 refine DWp.evs 3 rfl ?_
 refine Yd m0 ?_
 refine DWp.g rfl rfl rfl rfl (Gives.cap rfl rfl rfl) ?_
 refine DWp.evs 6 rfl ?_
 refine Yd m0 ?_
 refine DWp.evs 1 rfl ?_
 refine DWp.stepGrow rfl rfl rfl (Step.makeNoZero (k := n) rfl rfl rfl rfl rfl (by rw [i64_id (x := 2 * ((0 : Nat) : Int)) (by omega) (by omega), i64_id (by omega) (by omega)]; omega) rfl rfl rfl rfl rfl rfl hn ?_); intro L cs hBL hLL hc hm; refine ⟨fun _ hy => .tail _ hy, ?_⟩
 refine DWp.g rfl rfl rfl rfl (Gives.sliceSlice (l := 0) (h' := 0) rfl rfl rfl rfl rfl ⟨_, _, rfl, rfl⟩ (by omega) (by omega) (by omega)) ?_
 refine DWp.evs 1 rfl ?_
 refine DWp.nil ?_
 refine Yg 4 rfl ?_
 refine Yl m1 ?_
 refine OWp.step rfl (Step.copyNone rfl rfl rfl rfl rfl rfl ?_)
 refine OWp.nil ?_
 refine Wp.region ?_
 refine Ye 4 rfl ?_
 refine OWp.step rfl (Step.store 1 rfl rfl rfl rfl rfl hB rfl (Nat.le_of_ble_eq_true rfl) (Unfz.zero _) rfl rfl ?_)
 refine OWp.permS (List.Perm.swap _ _ _) ?_
 refine OWp.nil ?_
 refine ⟨trivial, [], rfl, ?_⟩
 exact H [(b, cel [pt b, .slice (some ⟨L, 0, none⟩) 0 cs.length] 169), (L, cel cs 5)] ⟨hB, _, _, _, .inr rfl, rfl, .inr ⟨L, cs.length, cs, (0, 0), rfl, rfl, hBL, Nat.zero_le _, by omega, hm, by simp⟩⟩
theorem bGrowOutC {b n : Nat} (hB : B ≤ b) (h0 : 0 < n) (hn : n ≤ 281474976710656) (H : ∀ es', Bd B b [] es' → Q (.tuple #[]) (es' ++ R)) :
  CallWp Tryz.prog B 139 #[pt b, .int .i64 (n : Int)] Q ((b, cel [.pointer none, .slice none 0 0] 169) :: R) := by
 refine Yx (args := [_, _]) Tryz.func139 Tryz.ntmps139 ?_
 refine Yg 1 rfl ?_
 refine Yc rfl rfl (checkC hB (.inl rfl) ?_)
 refine OWp.nil ?_
 refine Wp.seq ?_
 refine Yn 2 rfl ?_
 refine Ct rfl (by omega) fun cc1 => ?_
 refine Wp.skip ?_
 refine Wp.seq (Wp.regionDraw [0, 1, 2, 3, 4, 5, 6, 7, 8, 9, 10, 11, 12] [] rfl (by decide +kernel) ?_)
 refine DWp.evs 3 rfl ?_
 refine Yd m0 ?_
 refine DWp.g rfl rfl rfl rfl (Gives.cap rfl rfl rfl) ?_
 refine DWp.evs 3 rfl ?_
 refine Yd m0 ?_
 refine DWp.evs 4 rfl ?_
 refine DWp.nil ?_
 refine Cv rfl (by (rw [i64_id] <;> omega)) fun cc2 => ?_
 refine Wp.region ?_
 refine Ye 2 rfl ?_
 refine Yc rfl rfl (bGrowC hB h0 hn ?_)
 intro es' h'
 refine OWp.nil ?_
 refine ⟨trivial, [], rfl, ?_⟩
 exact H es' h'
theorem mulC {n : Nat} (hn : n < 4294967296) (H : Q (.tuple #[.int .u64 0, .int .u64 (n : Int)]) S) :
  CallWp Tryz.prog B 181 #[.int .u64 1, .int .u64 (n : Int)] Q S := by
 have hand : n &&& 4294967295 = n := by rw [Nat.and_two_pow_sub_one_eq_mod n 32]; omega
 have a1 : bits .and .u64 1 4294967295 = 1 := by decide +kernel
 have a0 : bits .and .u64 0 4294967295 = 0 := by decide +kernel
 have an : bits .and .u64 (n : Int) 4294967295 = (n : Int) := by
  have := Go.Lg.u64_and (a := n) (b := 4294967295) (by omega) (by decide)
  rw [hand] at this
  exact this
 have d1 : (1 : Int).fdiv (2 ^ min 32 IntKind.u64.bits) = 0 := by decide +kernel
 have d0 : (0 : Int).fdiv (2 ^ min 32 IntKind.u64.bits) = 0 := by decide +kernel
 have dn : (n : Int).fdiv (2 ^ min 32 IntKind.u64.bits) = 0 := by
  rw [Int.fdiv_eq_ediv_of_nonneg _ (by decide)]
  exact Int.ediv_eq_zero_of_lt (by omega) (by show (n : Int) < 4294967296; omega)
 have w0 : IntKind.u64.wrap 0 = 0 := by decide +kernel
 have wn : IntKind.u64.wrap (n : Int) = (n : Int) := by rw [IntKind.wrap_u64]; omega
 refine Yx (args := [_, _]) Tryz.func181 Tryz.ntmps181 ?_
 refine Yn 2 rfl ?_
 refine Yn 3 rfl ?_
 refine Yn 3 rfl ?_
 refine Yn 3 rfl ?_
 refine Yn 3 rfl ?_
 refine Yn 4 rfl ?_
 refine Yn 7 rfl ?_
 refine Yn 3 rfl ?_
 refine Yn 3 rfl ?_
 refine Yn 6 rfl ?_
 refine Yn 9 rfl ?_
 refine Yn 4 rfl ?_
 refine Wp.ret ⟨trivial, _, ⟨_, _, rfl, rfl, _, _, rfl, rfl, rfl⟩, ?_⟩
 simp only [a1, a0, an, d1, d0, dn, Int.zero_mul, Int.mul_zero, Int.one_mul, w0, wn, Int.add_zero]
 exact H
theorem mul1C {n : Nat} {a b : Int} (hn : n < 4294967296) (ha : a = 1) (hb : b = (n : Int)) (H : Q (.tuple #[.int .u64 0, .int .u64 (n : Int)]) S) :
  CallWp Tryz.prog B 137 #[.int .u64 a, .int .u64 b] Q S := by
 subst ha hb
 refine Yx (args := [_, _]) Tryz.func137 Tryz.ntmps137 ?_
 refine Yn 2 rfl ?_
 refine Wp.seq ?_
 refine Cn rfl ?_
 refine Wp.skip ?_
 refine Yg 2 rfl ?_
 refine Yc rfl rfl (mulC hn ?_)
 refine Yz 5 rfl ?_
 refine Yn 4 rfl ?_
 refine Wp.ret ⟨trivial, _, ⟨_, _, rfl, rfl, _, _, rfl, rfl, rfl⟩, ?_⟩
 exact H
theorem trimLC {l : List UInt8} (hl : l.length ≤ big) (H : Q (.string (str (l.dropWhile (· == 0)))) S) :
  CallWp Tryz.prog B 118 #[.string (str l), .int .u8 0] Q S := by
 refine Yx (args := [_, _]) Tryz.func118 Tryz.ntmps118 ?_
 refine Yn 1 rfl ?_
 refine Wp.seq ?_
 refine Wp.block ?_
 refine Wp.loopS (α := List UInt8) (fun z => z.length) (fun z => [(0, .string (str z)), (1, .int .u8 0)]) (fun _ => S) (fun z => z.length ≤ big ∧ z.dropWhile (· == 0) = l.dropWhile (· == 0)) l ?_ (.refl _) ⟨hl, rfl⟩ ?_
 ·exact .cons rfl (.cons rfl (.nil _))
 rintro z ⟨hz, hd⟩
 have hb : big = 281474976710656 := rfl
 refine Wp.seq ?_
 refine Yg 4 rfl ?_
 refine OWp.part 8 rfl (fun h1 => ?_) (fun h1 => ?_)
 ·have h1 := of_decide_eq_true h1
  obtain ⟨c, z', rfl⟩ : ∃ c z', z = c :: z' := by
   cases z with
   | nil => exact absurd h1 (by simp)
   | cons c z' => exact ⟨c, z', rfl⟩
  refine Ye 1 rfl ?_
  refine OWp.g rfl rfl (Gives.indexStr (b := c) rfl rfl rfl rfl (by simp) rfl) ?_
  refine Yz 3 rfl ?_
  refine Wp.cond rfl (fun h2 => ?_) (fun h2 => ?_)
  ·have h2 := of_decide_eq_true h2
   have hc : c = 0 := UInt8.toNat_inj.1 (by simpa using h2)
   refine Wp.skip ?_
   refine Wp.block ?_
   refine Wp.region ?_
   refine Ye 1 rfl ?_
   refine OWp.g rfl rfl (Gives.sliceStr (l := 1) (h' := (z'.length + 1)) rfl rfl rfl ⟨_, _, rfl, rfl⟩ rfl (by omega) (by simp)) ?_
   refine Yz 1 rfl ?_
   subst hc
   refine ⟨z', by simp, ⟨by simp only [List.length_cons] at hz; omega, by rw [← hd]; simp⟩, .cons' rfl ?_ (.cons rfl (.nil _)), .refl _⟩
   simp
  have h2 := of_decide_eq_false h2
  have hc : ¬ c = 0 := fun e => h2 (by rw [e]; rfl)
  refine Wp.exit ?_
  refine Yn 2 rfl ?_
  refine Wp.ret ⟨trivial, _, ⟨_, _, rfl, rfl, rfl⟩, ?_⟩
  rw [← hd, List.dropWhile_cons_of_neg (by simpa using hc)] at H; exact H
 have h1 := of_decide_eq_false h1
 obtain rfl : z = [] := by
  cases z with
  | nil => rfl
  | cons c z' => exact absurd (by simp) h1
 refine Yz 5 rfl ?_
 refine Cn rfl ?_
 refine Wp.exit ?_
 refine Yn 2 rfl ?_
 refine Wp.ret ⟨trivial, _, ⟨_, _, rfl, rfl, rfl⟩, ?_⟩
 rw [← hd] at H; exact H
theorem trimRC {l : List UInt8} (hl : l.length ≤ big) (H : Q (.string (str (l.reverse.dropWhile (· == 0)).reverse)) S) :
  CallWp Tryz.prog B 119 #[.string (str l), .int .u8 0] Q S := by
 refine Yx (args := [_, _]) Tryz.func119 Tryz.ntmps119 ?_
 refine Yn 1 rfl ?_
 refine Wp.seq ?_
 refine Wp.block ?_
 refine Wp.loopS (α := List UInt8) (fun z => z.length) (fun z => [(0, .string (str z.reverse)), (1, .int .u8 0)]) (fun _ => S) (fun z => z.length ≤ big ∧ z.dropWhile (· == 0) = l.reverse.dropWhile (· == 0)) l.reverse ?_ (.refl _) ⟨by simpa using hl, rfl⟩ ?_
 ·exact .cons (by rw [List.reverse_reverse]; rfl) (.cons rfl (.nil _))
 rintro z ⟨hz, hd⟩
 have hb : big = 281474976710656 := rfl
 refine Wp.seq ?_
 refine Yg 4 rfl ?_
 refine OWp.part 8 rfl (fun h1 => ?_) (fun h1 => ?_)
 ·have h1 := of_decide_eq_true h1
  obtain ⟨c, z', rfl⟩ : ∃ c z', z = c :: z' := by
   cases z with
   | nil => exact absurd h1 (by simp)
   | cons c z' => exact ⟨c, z', rfl⟩
  have e1 : IntKind.i64.wrap (((c :: z').reverse.length : Int) - 1) = (z'.length : Int) := by
   simp only [List.length_cons] at hz
   rw [List.length_reverse, List.length_cons, i64_id (by omega) (by omega)]; omega
  refine Ye 4 rfl ?_
  refine OWp.g rfl rfl (Gives.indexStr (b := c) rfl rfl rfl rfl (by show 0 ≤ IntKind.i64.wrap (((c :: z').reverse.length : Int) - 1); rw [e1]; omega) (by show (c :: z').reverse[(IntKind.i64.wrap (((c :: z').reverse.length : Int) - 1)).toNat]? = _; rw [e1]; simp)) ?_
  refine Yz 3 rfl ?_
  refine Wp.cond rfl (fun h2 => ?_) (fun h2 => ?_)
  ·have h2 := of_decide_eq_true h2
   have hc : c = 0 := UInt8.toNat_inj.1 (by simpa using h2)
   refine Wp.skip ?_
   refine Wp.block ?_
   refine Wp.region ?_
   refine Ye 4 rfl ?_
   refine OWp.g rfl rfl (Gives.sliceStr (l := 0) (h' := z'.length) rfl rfl rfl rfl ⟨_, _, rfl, e1⟩ (by omega) (by simp)) ?_
   refine Yz 1 rfl ?_
   subst hc
   refine ⟨z', by simp, ⟨by simp only [List.length_cons] at hz; omega, by rw [← hd]; simp⟩, .cons' rfl ?_ (.cons rfl (.nil _)), .refl _⟩
   simp
  have h2 := of_decide_eq_false h2
  have hc : ¬ c = 0 := fun e => h2 (by rw [e]; rfl)
  refine Wp.exit ?_
  refine Yn 2 rfl ?_
  refine Wp.ret ⟨trivial, _, ⟨_, _, rfl, rfl, rfl⟩, ?_⟩
  rw [← hd, List.dropWhile_cons_of_neg (by simpa using hc)] at H; exact H
 have h1 := of_decide_eq_false h1
 obtain rfl : z = [] := by
  cases z with
  | nil => rfl
  | cons c z' => exact absurd (by simp) h1
 refine Yz 8 rfl ?_
 refine Cn rfl ?_
 refine Wp.exit ?_
 refine Yn 2 rfl ?_
 refine Wp.ret ⟨trivial, _, ⟨_, _, rfl, rfl, rfl⟩, ?_⟩
 rw [← hd] at H; exact H
end
end Go.Proofs.D

namespace Go.Proofs.D
open Go.Lg Go.Sha
set_option maxRecDepth 100000

def trim (l : List UInt8) : List UInt8 := ((l.reverse.dropWhile (· == 0)).reverse).dropWhile (· == 0)

section
variable {B : Nat} {S R : Ents} {Q : Value → Ents → Prop}

theorem trimC {l : List UInt8} (hl : l.length ≤ big) (H : Q (.string (str (trim l))) S) :
  CallWp Tryz.prog B 77 #[.string (str l), .string (str [0])] Q S := by
 refine Yx (args := [_, _]) Tryz.func77 Tryz.ntmps77 ?_
 refine Yn 1 rfl ?_
 refine Wp.seq ?_
 refine Yg 3 rfl ?_
 refine OWp.part 9 rfl (fun h1 => ?_) (fun h1 => ?_)
 ·have h1 := of_decide_eq_true h1
  refine Yz 3 rfl ?_
  refine Cy rfl ?_
  refine Yn 2 rfl ?_
  refine Wp.ret ⟨trivial, _, ⟨_, _, rfl, rfl, rfl⟩, ?_⟩
  subst h1; exact H
 have h1 := of_decide_eq_false h1
 refine Yz 3 rfl ?_
 refine Ct rfl (by decide) fun cc1 => ?_
 refine Wp.skip ?_
 refine Wp.seq ?_
 refine Yg 4 rfl ?_
 refine Dv 17 rfl (by decide) fun cc2 => ?_
 refine Ye 1 rfl ?_
 refine OWp.g rfl rfl (Gives.indexStr (b := 0) rfl rfl rfl rfl (by decide) rfl) ?_
 refine Yz 2 rfl ?_
 refine Cv rfl (by decide) fun cc3 => ?_
 refine Wp.seq (Wp.regionDraw [0, 1, 2, 4, 5, 3, 6, 7] [3, 6] rfl (by decide +kernel) ?_)
 refine DWp.evs 2 rfl ?_
 refine DWp.g rfl rfl rfl rfl (Gives.indexStr (b := 0) rfl rfl rfl rfl (by decide) rfl) ?_
 refine DWp.evs 1 rfl ?_
 refine DWp.g rfl rfl rfl rfl (Gives.indexStr (b := 0) rfl rfl rfl rfl (by decide) rfl) ?_
 refine DWp.stepGrow rfl rfl rfl (Step.call rfl rfl rfl rfl rfl rfl ((trimRC hl ?_)))
 refine ⟨fun _ hy => hy, ?_⟩
 refine DWp.stepGrow rfl rfl rfl (Step.call rfl rfl rfl rfl rfl rfl ((trimLC (by rw [List.length_reverse]; exact Nat.le_trans (List.dropWhile_sublist _).length_le (by simpa using hl)) ?_)))
 refine ⟨fun _ hy => hy, ?_⟩
 refine DWp.evs 1 rfl ?_
 refine DWp.nil ?_
 refine Wp.ret ⟨trivial, _, ⟨_, _, rfl, rfl, rfl⟩, ?_⟩
 exact H
theorem bWriteEqC {b : Nat} {x y s : List UInt8} {es : Ents} (hy : y = s) (h : Bd B b x es) (hl : x.length + s.length ≤ 140737488355328) (H : ∀ es', Bd B b (x ++ s) es' → Q (.tuple #[.int .i64 (s.length : Int), .nilIface]) (es' ++ R)) :
  CallWp Tryz.prog B 66 #[pt b, .string (str y)] Q (es ++ R) := by
 subst hy; exact bWriteC h hl H

set_option maxHeartbeats 1000000 in
theorem zerosC {n : Nat} (hn : n ≤ 2147483648) (H : Q (.string (str (List.replicate n 0))) S) :
  CallWp Tryz.prog B 87 #[.string (str [0]), .int .i64 (n : Int)] Q S := by
 refine Yx (args := [_, _]) Tryz.func87 Tryz.ntmps87 ?_
 refine Yn 1 rfl ?_
 refine Wp.seq ?_
 refine Yn 1 rfl ?_
 refine Wp.block ?_
 refine Yn 2 rfl ?_
 refine Wp.cond rfl (fun h1 => ?_) (fun h1 => ?_)
 ·have h1 := of_decide_eq_true h1
  obtain rfl : n = 0 := by omega
  refine Yn 1 rfl ?_
  refine Wp.ret ⟨trivial, _, ⟨_, _, rfl, rfl, rfl⟩, ?_⟩
  exact H
 have h1 := of_decide_eq_false h1
 refine Yn 2 rfl ?_
 refine Wp.cond rfl (fun h2 => ?_) (fun h2 => ?_)
 ·have h2 := of_decide_eq_true h2
  obtain rfl : n = 1 := by omega
  refine Yn 2 rfl ?_
  refine Wp.ret ⟨trivial, _, ⟨_, _, rfl, rfl, rfl⟩, ?_⟩
  exact H
 have h2 := of_decide_eq_false h2
 refine Wp.skip ?_
 refine Wp.seq ?_
 refine Yn 2 rfl ?_
 refine Ct rfl (by omega) fun cc1 => ?_
 refine Wp.skip ?_
 refine Yg 5 rfl ?_
 refine Yc rfl rfl (mul1C (n := n) (by omega) (by decide +kernel) (by rw [IntKind.wrap_u64]; omega) ?_)
 refine Yz 5 rfl ?_
 refine Wp.seq ?_
 refine Yg 3 rfl ?_
 refine Dt 31 rfl (by omega) fun cc2 => ?_
 refine Yz 3 rfl ?_
 refine Ct rfl (by omega) fun cc3 => ?_
 refine Wp.skip ?_
 refine Yn 3 rfl ?_
 refine Wp.seq ?_
 refine Yn 3 rfl ?_
 refine Ct rfl (by decide) fun cc4 => ?_
 refine Wp.skip ?_
 refine Wp.seq ?_
 refine Yg 1 rfl ?_
 refine OWp.g rfl rfl (Gives.indexStr (b := 0) rfl rfl rfl rfl (by decide) rfl) ?_
 refine OWp.nil ?_
 refine Wp.block ?_
 refine Wp.seq ?_
 refine Yn 2 rfl ?_
 refine Ct rfl (by decide) fun cc5 => ?_
 refine Yn 2 rfl ?_
 refine Ct rfl (by decide) fun cc6 => ?_
 refine Yn 2 rfl ?_
 refine Ct rfl (by decide) fun cc7 => ?_
 refine Yn 2 rfl ?_
 refine Ct rfl (by decide) fun cc8 => ?_
 refine Wp.region ?_
 refine Yz 2 rfl ?_
 refine Ct rfl (by decide) fun cc9 => ?_
 refine Wp.skip ?_
 refine Yn 2 rfl ?_
 refine Wp.seqS (α := Nat) (fun c => [(0, .string (str [0])), (7, .int .i64 (n : Int)), (8, .int .i64 (c : Int))]) (fun _ => S) (fun c => 0 < c ∧ c ≤ 2147483648) ?_ ?_
 ·skip
  refine Yn 2 rfl ?_
  refine Wp.cond rfl (fun k1 => ?_) (fun k1 => ?_)
  ·have k1 := of_decide_eq_true k1
   refine Yg 2 rfl ?_
   refine OWp.g rfl rfl (Gives.quo rfl rfl rfl (by decide)) ?_
   refine Yz 4 rfl ?_
   refine Yn 2 rfl ?_
   refine Ct rfl (by decide) fun cc10 => ?_
   refine Wp.skip ?_
   exact ⟨8192, by decide, .cons rfl (.cons' rfl (int_eq (i64_id (by omega) (by omega))) (.cons' rfl rfl (.nil _))), .refl _⟩
  have k1 := of_decide_eq_false k1
  refine Wp.skip ?_
  exact ⟨n, by omega, .cons rfl (.cons' rfl (int_eq (i64_id (by omega) (by omega))) (.cons' rfl (int_eq (i64_id (by omega) (by omega))) (.nil _))), .refl _⟩
 rintro c ⟨hc, hc2⟩
 refine Yq ?_
 refine Ya rfl rfl rfl rfl fun L hBL hLL => ?_
 refine OWp.nil ?_
 refine Yg 1 rfl ?_
 refine Yc rfl rfl (bGrowOutC hBL (by omega) (by omega) ?_)
 intro es1 hb1
 refine OWp.nil ?_
 refine Yg 1 rfl ?_
 refine Yc rfl rfl (bWriteC (s := [0]) hb1 (by decide) ?_)
 intro es2 hb2
 refine OWp.nil ?_
 refine Wp.seq ?_
 refine Wp.block ?_
 refine Wp.loopS (α := Nat × Ents) (fun z => n - z.1) (fun z => [(7, .int .i64 (n : Int)), (8, .int .i64 (c : Int)), (9, pt L)]) (fun z => z.2 ++ S) (fun z => 1 ≤ z.1 ∧ z.1 ≤ n ∧ Bd B L (List.replicate z.1 0) z.2) (1, es2) ?_ (.refl _) ⟨by omega, by omega, hb2⟩ ?_
 ·exact .cons rfl (.cons rfl (.cons rfl (.nil _)))
 rintro ⟨k, es⟩ ⟨hk, hkn, hbk⟩
 simp only at hk hkn hbk ⊢
 have hlen : (List.replicate k (0 : UInt8)).length = k := List.length_replicate
 refine Wp.seq ?_
 refine Yq ?_
 refine Yc rfl rfl (bLenC hbk ?_)
 rw [hlen]
 refine Yz 2 rfl ?_
 refine Wp.cond rfl (fun h5 => ?_) (fun h5 => ?_)
 ·have h5 := of_decide_eq_true h5
  have hk5 : k < n := by omega
  refine Wp.skip ?_
  refine Wp.block ?_
  refine Yg 1 rfl ?_
  refine Yc rfl rfl (bLenC hbk ?_)
  rw [hlen]
  refine Ye 1 rfl ?_
  refine Yc rfl rfl (bLenC hbk ?_)
  rw [hlen]
  have e1 : IntKind.i64.wrap ((n : Int) - (k : Int)) = (n : Int) - (k : Int) := by rw [i64_id] <;> omega
  obtain ⟨m, hm, hm0, hmk, hmn⟩ : ∃ m : Nat, (if (c : Int) < (if (k : Int) < IntKind.i64.wrap ((n : Int) - (k : Int)) then (k : Int) else IntKind.i64.wrap ((n : Int) - (k : Int))) then (c : Int) else (if (k : Int) < IntKind.i64.wrap ((n : Int) - (k : Int)) then (k : Int) else IntKind.i64.wrap ((n : Int) - (k : Int)))) = (m : Int) ∧ 1 ≤ m ∧ m ≤ k ∧ m ≤ n - k := by
   rw [e1]
   refine ⟨(if (c : Int) < (if (k : Int) < (n : Int) - (k : Int) then (k : Int) else (n : Int) - (k : Int)) then (c : Int) else (if (k : Int) < (n : Int) - (k : Int) then (k : Int) else (n : Int) - (k : Int))).toNat, ?_, ?_, ?_, ?_⟩ <;> (repeat' split) <;> omega
  refine Ye 1 rfl ?_
  refine OWp.g rfl rfl (Gives.min3 rfl rfl rfl rfl hm) ?_
  refine Yz 1 rfl ?_
  refine Wp.region ?_
  refine Yc rfl rfl (bStringC hbk ?_)
  intro es3 hb3
  refine Ye 1 rfl ?_
  refine OWp.g rfl rfl (Gives.sliceStr (l := 0) (h' := m) rfl rfl rfl rfl ⟨_, _, rfl, rfl⟩ (by omega) (by rw [hlen]; omega)) ?_
  refine Yc rfl rfl (bWriteEqC (s := List.replicate m 0) (by simp only [List.take_replicate, List.drop_replicate]; congr 1; omega) hb3 (by rw [hlen, List.length_replicate]; omega) ?_)
  intro es4 hb4
  rw [List.replicate_append_replicate] at hb4
  refine OWp.nil ?_
  exact ⟨(k + m, es4), by simp only; omega, ⟨by simp only; omega, by simp only; omega, hb4⟩, .cons rfl (.cons rfl (.cons rfl (.nil _))), .refl _⟩
 have h5 := of_decide_eq_false h5
 obtain rfl : k = n := by omega
 refine Wp.exit ?_
 refine Yq ?_
 refine Yc rfl rfl (bStringC hbk ?_)
 intro es3 hb3
 refine Yz 1 rfl ?_
 refine Wp.drop (List.sublist_append_right _ _) ?_
 refine Wp.ret ⟨trivial, _, ⟨_, _, rfl, rfl, rfl⟩, ?_⟩
 exact H
end
end Go.Proofs.D

/- Timers by the digits of their deadlines: plain laws. -/
namespace Go.Whl

structure T where
  due : Nat
  id : Int
  no : Nat
deriving DecidableEq

def dig (a k : Nat) : Nat := a / 64 ^ k % 64
def levF (now a : Nat) : Nat → Nat
  | 0 => 0
  | k + 1 => if dig a (k + 1) = dig now (k + 1) then levF now a k else k + 1
def lev (now a : Nat) : Nat := levF now a 6
def most : Nat := 64 ^ 7

theorem dig_lt (a k : Nat) : dig a k < 64 := Nat.mod_lt _ (by decide)
theorem div_succ (a k : Nat) : a / 64 ^ k = 64 * (a / 64 ^ (k + 1)) + dig a k := by
  unfold dig
  rw [Nat.pow_succ, ← Nat.div_div_eq_div_mul]
  omega
theorem levF_le (now a : Nat) : ∀ k, levF now a k ≤ k
  | 0 => Nat.le_refl _
  | k + 1 => by
    unfold levF
    split
    · exact Nat.le_succ_of_le (levF_le now a k)
    · exact Nat.le_refl _
theorem lev_le (now a : Nat) : lev now a ≤ 6 := levF_le _ _ 6
theorem levF_above {now a : Nat} : ∀ {k j : Nat}, levF now a k < j → j ≤ k → dig a j = dig now j
  | 0, j, h1, h2 => by omega
  | k + 1, j, h1, h2 => by
    unfold levF at h1
    split at h1
    · rename_i h
      by_cases e : j = k + 1
      · subst e; exact h
      · exact levF_above h1 (by omega)
    · omega
theorem levF_at {now a : Nat} : ∀ {k : Nat}, 0 < levF now a k → dig a (levF now a k) ≠ dig now (levF now a k)
  | 0, h => by simp [levF] at h
  | k + 1, h => by
    by_cases e : dig a (k + 1) = dig now (k + 1)
    · have : levF now a (k + 1) = levF now a k := by simp [levF, e]
      rw [this] at h ⊢
      exact levF_at h
    · have : levF now a (k + 1) = k + 1 := by simp [levF, e]
      rw [this]; exact e
theorem top_zero {a : Nat} (h : a < most) : a / 64 ^ 7 = 0 := Nat.div_eq_of_lt h
/-- Above its level a deadline is the time. -/
theorem div_above {now a : Nat} (hn : now < most) (ha : a < most) : ∀ {j : Nat}, lev now a < j → j ≤ 7 → a / 64 ^ j = now / 64 ^ j := by
  suffices h : ∀ d j, j + d = 7 → lev now a < j → a / 64 ^ j = now / 64 ^ j by
    intro j h1 h2; exact h (7 - j) j (by omega) h1
  intro d
  induction d with
  | zero => intro j hj _; obtain rfl : j = 7 := by omega
            rw [top_zero hn, top_zero ha]
  | succ d ih =>
    intro j hj hl
    rw [div_succ a j, div_succ now j, ih (j + 1) (by omega) (by omega), levF_above (k := 6) hl (by omega)]
theorem lt_of_div {a b k : Nat} (h : a / 64 ^ k < b / 64 ^ k) : a < b := by
  rcases Nat.lt_or_ge a b with h1 | h1
  · exact h1
  · have := Nat.div_le_div_right (c := 64 ^ k) h1; omega
theorem lev_zero_dig {now a : Nat} (hn : now < most) (ha : a < most) (h : lev now a = 0) : a / 64 = now / 64 := by
  have := div_above hn ha (j := 1) (by omega) (by omega)
  simpa using this
/-- A deadline that is not over has no lesser digit on its level. -/
theorem dig_ge {now a : Nat} (hn : now < most) (ha : a < most) (h : now ≤ a) : dig now (lev now a) ≤ dig a (lev now a) := by
  have h1 := div_above hn ha (j := lev now a + 1) (by omega) (by have := lev_le now a; omega)
  have h2 := Nat.div_le_div_right (c := 64 ^ lev now a) h
  rw [div_succ a, div_succ now, h1] at h2
  omega
theorem dig_gt {now a : Nat} (hn : now < most) (ha : a < most) (h : now ≤ a) (hl : 0 < lev now a) : dig now (lev now a) < dig a (lev now a) := by
  have := dig_ge hn ha h
  have h2 : dig a (lev now a) ≠ dig now (lev now a) := levF_at (k := 6) hl
  omega
/-- What is on a lower level is due earlier. -/
theorem lt_of_lev {now a b : Nat} (hn : now < most) (ha : a < most) (hb : b < most) (hnb : now ≤ b) (h : lev now a < lev now b) : a < b := by
  refine lt_of_div (k := lev now b) ?_
  have h1 := div_above hn ha (j := lev now b) h (by have := lev_le now b; omega)
  have h2 := div_above hn hb (j := lev now b + 1) (by omega) (by have := lev_le now b; omega)
  have h3 := dig_gt hn hb hnb (by omega)
  rw [h1, div_succ b, div_succ now, h2]
  omega
theorem lt_of_dig {now a b : Nat} (hn : now < most) (ha : a < most) (hb : b < most) (h : lev now a = lev now b) (hd : dig a (lev now a) < dig b (lev now a)) : a < b := by
  refine lt_of_div (k := lev now a) ?_
  have h1 := div_above hn ha (j := lev now a + 1) (by omega) (by have := lev_le now a; omega)
  have h2 := div_above hn hb (j := lev now a + 1) (by omega) (by have := lev_le now b; omega)
  rw [div_succ a, div_succ b, h1, h2]
  omega

/-- The timers of a slot, as they stand by their numbers. -/
def slot (now : Nat) (M : List T) (k i : Nat) : List T := M.filter fun t => lev now t.due == k && dig t.due k == i
theorem mem_slot {now : Nat} {M : List T} {k i : Nat} {t : T} : t ∈ slot now M k i ↔ t ∈ M ∧ lev now t.due = k ∧ dig t.due k = i := by simp [slot]
theorem slot_append (now : Nat) (M N : List T) (k i : Nat) : slot now (M ++ N) k i = slot now M k i ++ slot now N k i := by simp [slot]
theorem slot_one (now : Nat) (t : T) (k i : Nat) : slot now [t] k i = if lev now t.due = k ∧ dig t.due k = i then [t] else [] := by
  unfold slot
  simp only [List.filter_cons, List.filter_nil, Bool.and_eq_true, beq_iff_eq]

/-- All timers may be: their deadlines are not over, and below the most. -/
def Fit (now : Nat) (M : List T) : Prop := ∀ t ∈ M, now ≤ t.due ∧ t.due < most
/-- The first slot, level by level, that is not empty holds the earliest. -/
theorem first_least {now : Nat} {M : List T} (hn : now < most) (hf : Fit now M) {k i : Nat} (h1 : ∀ k' i', k' < k → dig now k' ≤ i' → slot now M k' i' = [])
    (h2 : ∀ i', dig now k ≤ i' → i' < i → slot now M k i' = []) {a b : T} (ha : a ∈ slot now M k i) (hb : b ∈ M) (hle : b.due < a.due) : b ∈ slot now M k i := by
  obtain ⟨ham, hal, had⟩ := mem_slot.1 ha
  obtain ⟨fa1, fa2⟩ := hf a ham
  obtain ⟨fb1, fb2⟩ := hf b hb
  rcases Nat.lt_trichotomy (lev now b.due) k with h | h | h
  · have := h1 _ (dig b.due (lev now b.due)) h (dig_ge hn fb2 fb1)
    have hm : b ∈ slot now M (lev now b.due) (dig b.due (lev now b.due)) := mem_slot.2 ⟨hb, rfl, rfl⟩
    rw [this] at hm; cases hm
  · rcases Nat.lt_trichotomy (dig b.due k) i with h' | h' | h'
    · have h3 := dig_ge hn fb2 fb1
      rw [h] at h3
      have := h2 _ h3 h'
      have hm : b ∈ slot now M k (dig b.due k) := mem_slot.2 ⟨hb, h, rfl⟩
      rw [this] at hm; cases hm
    · exact mem_slot.2 ⟨hb, h, h'⟩
    · have := lt_of_dig hn fa2 fb2 (hal.trans h.symm) (by rw [hal, had]; exact h')
      omega
  · have := lt_of_lev hn fa2 fb2 fb1 (by rw [hal]; exact h)
    omega
theorem some_slot {now : Nat} {M : List T} (hn : now < most) (hf : Fit now M) (hM : M ≠ []) : ∃ k i, k < 7 ∧ i < 64 ∧ dig now k ≤ i ∧ slot now M k i ≠ [] := by
  obtain ⟨t, l, rfl⟩ := List.exists_cons_of_ne_nil hM
  obtain ⟨h1, h2⟩ := hf t (by simp)
  refine ⟨lev now t.due, dig t.due (lev now t.due), by have := lev_le now t.due; omega, dig_lt _ _, dig_ge hn h2 h1, ?_⟩
  have : t ∈ slot now (t :: l) (lev now t.due) (dig t.due (lev now t.due)) := mem_slot.2 ⟨by simp, rfl, rfl⟩
  exact List.ne_nil_of_mem this

/-! The time moves on. -/
theorem lev_eq_of {now now' a : Nat} {K : Nat} (h : ∀ j, K < j → j ≤ 6 → dig now j = dig now' j) (hK : K < lev now a ∨ K < lev now' a) : lev now a = lev now' a := by
  suffices hh : ∀ k, (∀ j, K < j → j ≤ k → dig now j = dig now' j) → (K < levF now a k ∨ K < levF now' a k) → levF now a k = levF now' a k from hh 6 h hK
  intro k
  induction k with
  | zero => intro _ _; rfl
  | succ k ih =>
    intro hj hk
    have hle : K < k + 1 := by
      have := levF_le now a (k + 1); have := levF_le now' a (k + 1); omega
    have e := hj (k + 1) hle (Nat.le_refl _)
    unfold levF at hk ⊢
    rw [e] at hk ⊢
    split
    · rename_i h1
      rw [if_pos h1, if_pos h1] at hk
      exact ih (fun j h1 h2 => hj j h1 (by omega)) hk
    · rfl
/-- The highest digit in which two times are unlike. -/
theorem highest {was to : Nat} (hw : was < most) (ht : to < most) (hle : was ≤ to) {k : Nat} (hk : was / 64 ^ k ≠ to / 64 ^ k) (hk7 : k < 7) :
    ∃ K, k ≤ K ∧ K < 7 ∧ was / 64 ^ (K + 1) = to / 64 ^ (K + 1) ∧ dig was K < dig to K := by
  suffices h : ∀ d k, k + d = 7 → was / 64 ^ k ≠ to / 64 ^ k → ∃ K, k ≤ K ∧ K < 7 ∧ was / 64 ^ (K + 1) = to / 64 ^ (K + 1) ∧ dig was K < dig to K from h (7 - k) k (by omega) hk
  intro d
  induction d with
  | zero => intro k e h; obtain rfl : k = 7 := by omega
            rw [top_zero hw, top_zero ht] at h; exact absurd rfl h
  | succ d ih =>
    intro k e h
    by_cases h2 : was / 64 ^ (k + 1) = to / 64 ^ (k + 1)
    · refine ⟨k, Nat.le_refl _, by omega, h2, ?_⟩
      have := Nat.div_le_div_right (c := 64 ^ k) hle
      rw [div_succ was k, div_succ to k, h2] at h this
      omega
    · obtain ⟨K, h3, h4⟩ := ih (k + 1) (by omega) h2
      exact ⟨K, by omega, h4⟩
/-- Nothing that is not over stands below the highest digit that turns. -/
theorem none_below {was to a K : Nat} (hw : was < most) (ha : a < most) (hK : K < 7) (h1 : was / 64 ^ (K + 1) = to / 64 ^ (K + 1)) (h2 : dig was K < dig to K) (hta : to ≤ a) : K ≤ lev was a := by
  rcases Nat.lt_or_ge (lev was a) K with h | h
  · exfalso
    have h3 := div_above hw ha (j := K) h (by omega)
    have h4 := Nat.div_le_div_right (c := 64 ^ K) hta
    rw [h3, div_succ was, div_succ to, h1] at h4
    omega
  · exact h
theorem digs_eq {was to K : Nat} (h1 : was / 64 ^ (K + 1) = to / 64 ^ (K + 1)) {j : Nat} (hj : K < j) : dig was j = dig to j := by
  unfold dig
  obtain ⟨d, rfl⟩ : ∃ d, j = K + 1 + d := ⟨j - (K + 1), by omega⟩
  rw [Nat.pow_add, ← Nat.div_div_eq_div_mul, ← Nat.div_div_eq_div_mul, h1]

/-- The slot that is laid out anew, and all others. -/
theorem moved {was to : Nat} {M : List T} (hw : was < most) (_ht : to < most) (hf : Fit to M) {K : Nat} (hK : K < 7) (h1 : was / 64 ^ (K + 1) = to / 64 ^ (K + 1)) (h2 : dig was K < dig to K) :
    (∀ k i, (k < K → slot was M k i = []) ∧ (slot to M k i = if k = K ∧ i = dig to K ∧ 0 < K then [] else slot was M k i ++ slot to (slot was M K (dig to K)) k i) ∨ K = 0) := by
  intro k i
  by_cases hK0 : K = 0
  · exact .inr hK0
  refine .inl ⟨?_, ?_⟩
  · intro hk
    apply List.eq_nil_iff_forall_not_mem.2
    intro t htm
    obtain ⟨hm, hl, _⟩ := mem_slot.1 htm
    have := none_below hw (hf t hm).2 hK h1 h2 (hf t hm).1
    omega
  · have dige : ∀ j, K < j → j ≤ 6 → dig was j = dig to j := fun j h _ => digs_eq h1 h
    -- how the levels turn
    have up : ∀ t ∈ M, K < lev was t.due → lev to t.due = lev was t.due := fun t _ h => (lev_eq_of dige (.inl h)).symm
    have at1 : ∀ t ∈ M, lev was t.due = K → dig t.due K ≠ dig to K → lev to t.due = K := by
      intro t _ h hd
      have h3 : lev to t.due ≤ K := by
        rcases Nat.lt_or_ge K (lev to t.due) with h4 | h4
        · have := lev_eq_of (now := was) (now' := to) (a := t.due) dige (.inr h4); omega
        · exact h4
      rcases Nat.lt_or_ge (lev to t.due) K with h4 | h4
      · exact absurd (levF_above (k := 6) h4 (by omega)) hd
      · omega
    have at2 : ∀ t ∈ M, lev was t.due = K → dig t.due K = dig to K → lev to t.due < K := by
      intro t _ h hd
      rcases Nat.lt_or_ge (lev to t.due) K with h4 | h4
      · exact h4
      · rcases Nat.eq_or_lt_of_le h4 with h5 | h5
        · have := levF_at (now := to) (a := t.due) (k := 6) (by show 0 < lev to t.due; omega)
          rw [show levF to t.due 6 = K from h5.symm] at this
          exact absurd hd this
        · have := lev_eq_of (now := was) (now' := to) (a := t.due) dige (.inr h5); omega
    have low : ∀ t ∈ M, K ≤ lev was t.due := fun t hm => none_below hw (hf t hm).2 hK h1 h2 (hf t hm).1
    split
    · rename_i h
      obtain ⟨rfl, rfl, _⟩ := h
      apply List.eq_nil_iff_forall_not_mem.2
      intro t htm
      obtain ⟨hm, hl, hd⟩ := mem_slot.1 htm
      have h3 := levF_at (now := to) (a := t.due) (k := 6) (by show 0 < lev to t.due; omega)
      rw [show levF to t.due 6 = k from hl] at h3
      exact h3 hd
    · rename_i hne
      by_cases hk : k < K
      · -- a lower slot: all of it comes out of the one
        have e1 : slot was M k i = [] := by
          apply List.eq_nil_iff_forall_not_mem.2
          intro t htm
          obtain ⟨hm, hl, _⟩ := mem_slot.1 htm
          have := low t hm; omega
        rw [e1, List.nil_append]
        unfold slot
        rw [List.filter_filter]
        apply List.filter_congr
        intro t hm
        have hl := low t hm
        by_cases ha : lev to t.due = k ∧ dig t.due k = i
        · have h3 : lev was t.due = K := by
            rcases Nat.eq_or_lt_of_le hl with h | h
            · exact h.symm
            · have := up t hm h; omega
          have h4 : dig t.due K = dig to K := by
            by_cases h5 : dig t.due K = dig to K
            · exact h5
            · have := at1 t hm h3 h5; omega
          simp [ha.1, ha.2, h3, h4]
        · have : (lev to t.due == k && dig t.due k == i) = false := by
            rw [Bool.eq_false_iff]; intro h; exact ha (by simpa using h)
          simp [this]
      · -- a slot that stays
        have e2 : slot to (slot was M K (dig to K)) k i = [] := by
          apply List.eq_nil_iff_forall_not_mem.2
          intro t htm
          obtain ⟨hm1, hl1, _⟩ := mem_slot.1 htm
          obtain ⟨hm, hl, hd⟩ := mem_slot.1 hm1
          have := at2 t hm hl hd; omega
        rw [e2, List.append_nil]
        unfold slot
        apply List.filter_congr
        intro t hm
        have hl := low t hm
        rw [Bool.eq_iff_iff]
        simp only [Bool.and_eq_true, beq_iff_eq]
        constructor
        · rintro ⟨h3, h4⟩
          refine ⟨?_, h4⟩
          rcases Nat.eq_or_lt_of_le hl with h | h
          · by_cases h5 : dig t.due K = dig to K
            · have := at2 t hm h.symm h5; omega
            · have := at1 t hm h.symm h5; omega
          · rw [← up t hm h]; exact h3
        · rintro ⟨h3, h4⟩
          refine ⟨?_, h4⟩
          rcases Nat.eq_or_lt_of_le hl with h | h
          · have h5 : dig t.due K ≠ dig to K := by
              intro h5
              have hkk : k = K := by omega
              subst hkk
              exact hne ⟨rfl, h4.symm.trans h5, by omega⟩
            have := at1 t hm h.symm h5; omega
          · rw [up t hm h]; exact h3
theorem moved_zero {was to : Nat} {M : List T} (h1 : was / 64 = to / 64) (k i : Nat) : slot to M k i = slot was M k i := by
  have dige : ∀ j, 0 < j → j ≤ 6 → dig was j = dig to j := fun j h _ => digs_eq (K := 0) (by simpa using h1) h
  have lev_same : ∀ a, lev to a = lev was a := by
    intro a
    by_cases h : 0 < lev to a ∨ 0 < lev was a
    · exact lev_eq_of (K := 0) (fun j h1 h2 => (dige j h1 h2).symm) h
    · omega
  unfold slot
  apply List.filter_congr
  intro t _
  rw [lev_same]
end Go.Whl

/- Timers in the order in which they are told. -/
namespace Go.Whl

def ins (t : T) : List T → List T
  | [] => [t]
  | u :: l => if u.due ≤ t.due then u :: ins t l else t :: u :: l
def srt (M : List T) : List T := M.foldl (fun l t => ins t l) []
abbrev Up (l : List T) : Prop := l.Pairwise fun a b => a.due ≤ b.due

theorem mem_ins {t u : T} : ∀ {l : List T}, u ∈ ins t l ↔ u = t ∨ u ∈ l
  | [] => by simp [ins]
  | v :: l => by
    unfold ins
    split
    · simp only [List.mem_cons, mem_ins (l := l)]
      constructor
      · rintro (h | h | h)
        · exact .inr (.inl h)
        · exact .inl h
        · exact .inr (.inr h)
      · rintro (h | h | h)
        · exact .inr (.inl h)
        · exact .inl h
        · exact .inr (.inr h)
    · simp
theorem ins_up {t : T} : ∀ {l : List T}, Up l → Up (ins t l)
  | [], _ => by simp [ins, Up]
  | v :: l, h => by
    obtain ⟨h1, h2⟩ := List.pairwise_cons.1 h
    unfold ins
    split
    · rename_i hv
      refine List.pairwise_cons.2 ⟨fun x hx => ?_, ins_up h2⟩
      rcases mem_ins.1 hx with rfl | hx
      · exact hv
      · exact h1 x hx
    · rename_i hv
      refine List.pairwise_cons.2 ⟨fun x hx => ?_, h⟩
      rcases List.mem_cons.1 hx with rfl | hx
      · omega
      · have := h1 x hx; omega
theorem foldl_up : ∀ (M l : List T), Up l → Up (M.foldl (fun l t => ins t l) l)
  | [], _, h => h
  | _ :: M, _, h => foldl_up M _ (ins_up h)
theorem srt_up (M : List T) : Up (srt M) := foldl_up M [] List.Pairwise.nil
theorem ins_perm (t : T) : ∀ l : List T, (ins t l).Perm (t :: l)
  | [] => .refl _
  | u :: l => by
    unfold ins
    split
    · exact ((ins_perm t l).cons u).trans (.swap _ _ _)
    · exact .refl _
theorem srt_perm (M : List T) : (srt M).Perm M := by
  suffices h : ∀ (M l : List T), (M.foldl (fun l t => ins t l) l).Perm (l ++ M) from h M []
  intro M
  induction M with
  | nil => intro l; simp
  | cons t M ih =>
    intro l
    refine (ih _).trans ?_
    refine ((ins_perm t l).append_right M).trans ?_
    exact List.perm_middle.symm
theorem mem_srt {M : List T} {t : T} : t ∈ srt M ↔ t ∈ M := (srt_perm M).mem_iff
theorem srt_len (M : List T) : (srt M).length = M.length := (srt_perm M).length_eq
theorem ins_late {t : T} : ∀ {l : List T}, (∀ u ∈ l, u.due ≤ t.due) → ins t l = l ++ [t]
  | [], _ => rfl
  | u :: l, h => by
    unfold ins
    rw [if_pos (h u (by simp)), ins_late fun v hv => h v (by simp [hv])]
    rfl
theorem ins_early {t : T} {l : List T} (h : ∀ u ∈ l, t.due < u.due) : ins t l = t :: l := by
  cases l with
  | nil => rfl
  | cons u l => unfold ins; rw [if_neg (by have := h u (by simp); omega)]
theorem ins_cons (t u : T) (l : List T) : ins t (u :: l) = if u.due ≤ t.due then u :: ins t l else t :: u :: l := rfl
theorem filter_ins (p : T → Bool) (t : T) : ∀ {l : List T}, Up l → (ins t l).filter p = if p t then ins t (l.filter p) else l.filter p
  | [], _ => by unfold ins; cases h : p t <;> simp [h]
  | u :: l, hu => by
    obtain ⟨h1, h2⟩ := List.pairwise_cons.1 hu
    have ih := filter_ins p t h2
    rw [ins_cons]
    split
    · rename_i hle
      rw [List.filter_cons, List.filter_cons, ih]
      cases hp : p u with
      | true =>
        cases ht : p t with
        | true => simp [ins_cons, hle]
        | false => simp
      | false => cases ht : p t <;> simp
    · rename_i hle
      rw [List.filter_cons]
      cases ht : p t with
      | true =>
        rw [if_pos rfl, if_pos rfl, ins_early]
        intro v hv
        rcases List.mem_cons.1 (List.mem_filter.1 hv).1 with rfl | hv
        · omega
        · have := h1 v hv; omega
      | false => simp
theorem srt_filter (p : T → Bool) (M : List T) : srt (M.filter p) = (srt M).filter p := by
  suffices h : ∀ (M l : List T), Up l → (M.filter p).foldl (fun l t => ins t l) (l.filter p) = (M.foldl (fun l t => ins t l) l).filter p from h M [] List.Pairwise.nil
  intro M
  induction M with
  | nil => intro l _; rfl
  | cons t M ih =>
    intro l hl
    rw [List.foldl_cons, ← ih _ (ins_up hl), filter_ins p t hl, List.filter_cons]
    cases p t <;> simp
theorem srt_same {M : List T} {m : Nat} (h : ∀ t ∈ M, t.due = m) : srt M = M := by
  suffices hh : ∀ (M l : List T), (∀ t ∈ M, t.due = m) → (∀ t ∈ l, t.due = m) → M.foldl (fun l t => ins t l) l = l ++ M from hh M [] h (by simp)
  intro M
  induction M with
  | nil => intro l _ _; simp
  | cons t M ih =>
    intro l h1 h2
    rw [List.foldl_cons, ins_late (fun u hu => by rw [h2 u hu, h1 t (by simp)]; exact Nat.le_refl _), ih _ (fun u hu => h1 u (by simp [hu])) (by
      intro u hu
      rcases List.mem_append.1 hu with hu | hu
      · exact h2 u hu
      · rw [List.mem_singleton.1 hu]; exact h1 t (by simp))]
    simp
theorem filter_due (M : List T) (m : Nat) : M.filter (·.due == m) = (srt M).filter (·.due == m) := by
  rw [← srt_filter, srt_same (m := m)]
  intro t ht
  simpa using (List.mem_filter.1 ht).2

/-- The earliest ones go ahead. -/
theorem split_first {m to : Nat} (hm : m ≤ to) : ∀ {l : List T}, Up l → (∀ t ∈ l, m ≤ t.due) →
    l.filter (fun t => decide (t.due ≤ to)) = l.filter (·.due == m) ++ (l.filter (fun t => !(t.due == m))).filter (fun t => decide (t.due ≤ to))
  | [], _, _ => rfl
  | u :: l, hu, hl => by
    obtain ⟨h1, h2⟩ := List.pairwise_cons.1 hu
    by_cases e : u.due = m
    · have ih := split_first hm h2 fun t ht => hl t (by simp [ht])
      have e1 : (u.due == m) = true := by simp [e]
      have e2 : decide (u.due ≤ to) = true := by simp [e, hm]
      rw [List.filter_cons_of_pos (by exact e2), List.filter_cons_of_pos (by exact e1), List.filter_cons_of_neg (by simp [e1]), ih]
      rfl
    · have hgt : ∀ t ∈ u :: l, m < t.due := by
        intro t ht
        have hu0 := hl u (by simp)
        rcases List.mem_cons.1 ht with rfl | ht
        · omega
        · have := h1 t ht; omega
      have e1 : (u :: l).filter (·.due == m) = [] := by
        rw [List.filter_eq_nil_iff]
        intro t ht
        have := hgt t ht
        simp; omega
      have e2 : (u :: l).filter (fun t => !(t.due == m)) = u :: l := by
        rw [List.filter_eq_self]
        intro t ht
        have := hgt t ht
        simp; omega
      rw [e1, e2]; rfl

/-- What is told up to a time, and what is left. -/
def told (M : List T) (to : Nat) : List Int := ((srt M).filter fun t => decide (t.due ≤ to)).map (·.id)
def left (M : List T) (to : Nat) : List T := M.filter fun t => decide (to < t.due)
theorem told_step {M : List T} {m to : Nat} (hm : m ≤ to) (hl : ∀ t ∈ M, m ≤ t.due) :
    told M to = (M.filter (·.due == m)).map (·.id) ++ told (M.filter fun t => !(t.due == m)) to := by
  unfold told
  rw [split_first hm (srt_up M) (fun t ht => hl t (mem_srt.1 ht)), List.map_append, ← filter_due, ← srt_filter]
theorem told_none {M : List T} {to : Nat} (h : ∀ t ∈ M, to < t.due) : told M to = [] := by
  unfold told
  have : (srt M).filter (fun t => decide (t.due ≤ to)) = [] := by
    rw [List.filter_eq_nil_iff]
    intro t ht
    have := h t (mem_srt.1 ht)
    simp; omega
  rw [this]; rfl
theorem left_step {M : List T} {m to : Nat} (hm : m ≤ to) : left (M.filter fun t => !(t.due == m)) to = left M to := by
  unfold left
  rw [List.filter_filter]
  apply List.filter_congr
  intro t _
  by_cases h : to < t.due
  · have : t.due ≠ m := by omega
    simp [h, this]
  · simp [h]
theorem left_all {M : List T} {to : Nat} (h : ∀ t ∈ M, to < t.due) : left M to = M := by
  unfold left
  rw [List.filter_eq_self]
  intro t ht
  simp [h t ht]
end Go.Whl
