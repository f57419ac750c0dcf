/- What functions of the given program do, one after the other, told by that layer. -/
import Derived.Test.YtkbagleekpgdeaaGreatDoorZInts
import Derived.Test.YtkbagleekpgdeaaGreatDoorLgM2xb716
import Derived.Test.YtkbagleekpgdeaaGreatDoorLgFork
import Derived.Test.YtkbagleekpgdeaaGreatDoorEM1x7081
namespace Go.Proofs.D
open Go.Lg Go.Cv Go.Nm
open Go.Proofs.C (zi zi_length zi_one zi_append)
set_option maxRecDepth 100000
theorem zi_put {l : List Int} {o i : Nat} {x y : Int} (h : i < l.length) (hx : y = x) (ho : o = i) : wr (zi l) o (Value.int .i64 y).cells.toList = zi (l.set i x) := by
  subst hx ho
  unfold wr zi
  rw [List.set_eq_take_append_cons_drop, if_pos h]
  simp [Value.cells]
theorem zi_at {l : List Int} {i o : Nat} (h : i < l.length) (ho : o = i) : Lg.partAt Tryz.prog 2 (zi l) o = some (.int .i64 (l.getD i 0)) := by
  subst ho
  show (zi l)[o]? = _
  simp [zi, h]
theorem num_part {l : List Int} (h : l.length = 10) : Lg.partAt Tryz.prog 100 (zi l) 0 = some (.agg (zi l).toArray) :=
  partAt_agg (n := 10) (r := zi l) (by rw [List.drop_zero, List.take_of_length_le (by rw [zi_length, h]; decide)]) rfl rfl (by rw [zi_length, h])
theorem i64_inc' {a : Nat} (ha : a ≤ 281474976710656) : IntKind.i64.wrap ((a : Int) + 1) = ((a + 1 : Nat) : Int) := by rw [i64_id] <;> omega
theorem fdiv26 (x : Int) : x.fdiv (2 ^ (min 26 IntKind.i64.bits)) = x / 67108864 := by
  rw [Int.fdiv_eq_ediv_of_nonneg _ (Int.pow_nonneg (by decide))]; rfl
theorem even_lo {x : Int} (h : -4611686018427387904 ≤ x ∧ x ≤ 4611686018427387904) : IntKind.i64.wrap (x - IntKind.i64.wrap (x.fdiv (2 ^ (min 26 IntKind.i64.bits)) * 2 ^ (min 26 IntKind.i64.bits))) = x % 67108864 := by
  rw [fdiv26, show (2 : Int) ^ (min 26 IntKind.i64.bits) = 67108864 from rfl, i64_id (x := x / 67108864 * 67108864) (by omega) (by omega), i64_id (by omega) (by omega)]
  omega
theorem len_le {a b : List Value} (ha : a.length = 10) (hb : b.length = 10) : 0 + a.length ≤ b.length := by omega
theorem wr_whole {l vs : List Value} (h : vs.length = l.length) : wr l 0 vs = vs := by
  unfold wr
  rw [Nat.zero_add, h, List.drop_length]
  simp
abbrev pn (L : Nat) : Value := .pointer (some ⟨L, 0, none⟩)
def BIG : Int := 2305843009213693952
section
variable {B : Nat} {S R : Ents} {Q : Value → Ents → Prop}
set_option maxHeartbeats 1000000 in
theorem evenC {l : List Int} (hl : l.length = 10) (hb : In l (-BIG) BIG) (H : Q (.agg (zi (dg (val l))).toArray) S) : CallWp Tryz.prog B 170 #[.agg (zi l).toArray] Q S := by
  have hev : ev l = dg (val l) := ev_dig 9 l hl
  rw [← hev] at H
  refine CallWp.dropRet ?_
  refine CallWp.enter (args := [_]) Tryz.func170 rfl Tryz.ntmps170 rfl ?_
  refine Wp.seq (Wp.region ?_)
  refine OWp.step rfl (Step.box rfl rfl rfl ?_); intro L1 hBL1 hLL1
  refine OWp.step rfl (Step.alloc rfl rfl rfl ?_); intro L2 hBL2 hLL2
  refine OWp.nil ?_
  refine Wp.seq ?_
  refine Wp.seq (Wp.region ?_)
  refine OWp.evs 1 rfl ?_
  refine OWp.nil ?_
  refine Wp.block ?_
  refine Wp.loopS (α := Nat × List Int × List Int) (fun z => 9 - z.1) (fun z => [(1, pn L1), (2, pn L2), (3, .int .i64 (z.1 : Int))]) (fun z => (L2, cel (zi (List.replicate 10 0)) 100) :: (L1, cel (zi (z.2.1 ++ z.2.2)) 100) :: S) (fun z => z.1 ≤ 9 ∧ z.2.1.length = z.1 ∧ z.2.2.length = 10 - z.1 ∧ ev l = z.2.1 ++ ev z.2.2 ∧ In z.2.2 (-BIG - 68719476736) (BIG + 68719476736) ∧ In z.2.2.tail (-BIG) BIG) (0, [], l) ?_ (.refl _) ⟨by simp only; decide, rfl, hl, rfl, hb.mono (by decide) (by decide), by cases l with | nil => exact hb | cons x l => exact hb.tail⟩ ?_
  · exact .cons rfl (.cons rfl (.cons rfl (.nil _)))
  rintro ⟨i, d, p⟩ ⟨hi, hd, hp, he, hb1, hb2⟩
  simp only at hi hd hp he hb1 hb2 ⊢
  refine Wp.seq ?_
  refine Wp.seq (Wp.region ?_)
  refine OWp.evs 3 rfl ?_
  refine OWp.nil ?_
  refine Wp.cond rfl (fun h1 => ?_) (fun h1 => ?_)
  · have h1 := of_decide_eq_true h1
    have hi1 : i < 9 := by rw [i64_id (by omega) (by omega)] at h1; omega
    obtain ⟨x, y, r, rfl⟩ : ∃ x y r, p = x :: y :: r := by
      match p, hp with
      | x :: y :: r, _ => exact ⟨x, y, r, rfl⟩
      | [x], h => exact absurd h (by simp only [List.length_cons, List.length_nil]; omega)
      | [], h => exact absurd h (by simp only [List.length_nil]; omega)
    have hx := hb1.head
    have hy := hb2.head
    rw [List.tail_cons] at hb2
    have hlen : (d ++ x :: y :: r).length = 10 := by rw [List.length_append, hp, hd]; omega
    have g0 : (d ++ x :: y :: r).getD i 0 = x := by rw [List.getD_eq_getElem?_getD, List.getElem?_append_right (by omega), hd, Nat.sub_self]; rfl
    unfold BIG at hx hy
    refine Wp.skip ?_
    refine Wp.seq ?_
    refine Wp.block ?_
    refine Wp.seq (Wp.region ?_)
    refine OWp.evs 1 rfl ?_
    refine OWp.g rfl rfl (Gives.indexAddrArr (i) rfl rfl rfl rfl rfl rfl (by omega)) ?_
    refine OWp.load (.tail _ (.head _)) rfl rfl rfl rfl (zi_at (i := i) (by omega) (by show 0 + i * 1 = i; omega)) ?_
    rw [g0]
    refine OWp.evs 2 rfl ?_
    refine OWp.nil ?_
    refine Wp.seq (Wp.region ?_)
    refine OWp.evs 1 rfl ?_
    refine OWp.g rfl rfl (Gives.indexAddrArr (i) rfl rfl rfl rfl rfl rfl (by omega)) ?_
    refine OWp.load (.tail _ (.head _)) rfl rfl rfl rfl (zi_at (i := i) (by omega) (by show 0 + i * 1 = i; omega)) ?_
    rw [g0]
    refine OWp.evs 3 rfl ?_
    refine OWp.g rfl rfl (Gives.indexAddrArr (i) rfl rfl rfl rfl rfl rfl (by omega)) ?_
    refine OWp.step rfl (Step.storeAs 1 (zi (d ++ (x % 67108864) :: y :: r)) rfl rfl rfl rfl rfl hBL1 rfl (Unfz.zero _) rfl (by rw [zi_length, hlen]; show 0 + i * 1 + 1 ≤ 10; omega) ((zi_put (i := i) (by omega) (even_lo (by omega)) (by show 0 + i * 1 = i; omega)).trans (by rw [← hd, List.set_append_right _ _ (Nat.le_refl _), Nat.sub_self, List.set_cons_zero])) rfl ?_)
    have hlen2 : (d ++ (x % 67108864) :: y :: r).length = 10 := by rw [← hlen, List.length_append, List.length_append]; rfl
    have g1 : (d ++ (x % 67108864) :: y :: r).getD (i + 1) 0 = y := by rw [List.getD_eq_getElem?_getD, List.getElem?_append_right (by omega), hd, Nat.add_sub_cancel_left]; rfl
    have hii : IntKind.i64.wrap ((i : Int) + 1) = ((i + 1 : Nat) : Int) := by rw [i64_id] <;> omega
    refine OWp.nil ?_
    refine Wp.region ?_
    refine OWp.evs 2 rfl ?_
    refine OWp.g rfl rfl (Gives.indexAddrArr (i + 1) rfl rfl rfl rfl rfl (by rw [hii]) (by omega)) ?_
    refine OWp.load (.tail _ (.head _)) rfl rfl rfl rfl (zi_at (i := i + 1) (by omega) (by show 0 + (i + 1) * 1 = i + 1; omega)) ?_
    rw [g1]
    refine OWp.evs 2 rfl ?_
    refine OWp.g rfl rfl (Gives.indexAddrArr (i + 1) rfl rfl rfl rfl rfl (by rw [hii]) (by omega)) ?_
    refine OWp.step rfl (Step.storeAs 1 (zi ((d ++ [x % 67108864]) ++ (y + x / 67108864) :: r)) rfl rfl rfl rfl rfl hBL1 rfl (Unfz.zero _) rfl (by rw [zi_length, hlen2]; show 0 + (i + 1) * 1 + 1 ≤ 10; omega) ((zi_put (i := i + 1) (by omega) (by rw [fdiv26, i64_id (x := y + x / 67108864) (by omega) (by omega)]) (by show 0 + (i + 1) * 1 = i + 1; omega)).trans (by rw [← hd, List.set_append_right _ _ (by omega), Nat.add_sub_cancel_left, List.set_cons_succ, List.set_cons_zero, List.append_assoc]; rfl)) rfl ?_)
    refine OWp.nil ?_
    refine Wp.region ?_
    refine OWp.evs 3 rfl ?_
    refine OWp.nil ?_
    exact ⟨(i + 1, d ++ [x % 67108864], (y + x / 67108864) :: r), by simp only; omega, ⟨by simp only; omega, by simp [hd], by simp only [List.length_cons] at hp ⊢; omega, by rw [he, Nm.ev, List.append_assoc]; rfl, In.cons (by unfold BIG; omega) (hb2.tail.mono (by decide) (by decide)), hb2.tail⟩, .cons rfl (.cons rfl (.cons' rfl (int_eq (i64_inc' (by omega))) (.nil _))), .refl _⟩
  have h1 := of_decide_eq_false h1
  obtain rfl : i = 9 := by rw [i64_id (by omega) (by omega)] at h1; omega
  obtain ⟨x, rfl⟩ : ∃ x, p = [x] := by
    match p, hp with
    | [x], _ => exact ⟨x, rfl⟩
    | [], h => exact absurd h (by decide)
    | _ :: _ :: _, h => exact absurd h (by simp only [List.length_cons]; omega)
  have hlen : (d ++ [x]).length = 10 := by rw [List.length_append, hd]; rfl
  have hpart := num_part hlen
  refine Wp.exit ?_
  refine Wp.seq (Wp.region ?_)
  refine OWp.load (.tail _ (.head _)) rfl rfl rfl rfl (num_part hlen) ?_
  refine OWp.step rfl (Step.storeAs 0 (zi (d ++ [x])) rfl rfl rfl rfl rfl hBL2 (show some 10 = some (zi (d ++ [x])).length from congrArg some (((zi_length _).trans hlen).symm)) (Unfz.zero _) (zi_one _) (show 0 + (zi (d ++ [x])).length ≤ _ from len_le ((zi_length _).trans hlen) rfl) (wr_whole (show (zi (d ++ [x])).length = _ from ((zi_length _).trans hlen).trans (Eq.symm rfl))) rfl ?_)
  refine OWp.nil ?_
  refine Wp.ret ⟨trivial, _, ⟨_, _, _, _, rfl, rfl, ⟨_, _, _, mems, (by first | assumption | rfl)⟩, rfl⟩, ?_⟩
  rw [he, Nm.ev] at H
  exact ⟨S, subl, H⟩
end
end Go.Proofs.D

namespace Go.Proofs.D
open Go.Lg Go.Cv Go.Nm
open Go.Proofs.C (zi zi_length zi_one zi_append)
set_option maxRecDepth 100000
attribute [local irreducible] dg
theorem rep_set {i : Nat} (h : i < 10) : (List.replicate i (67108863 : Int) ++ List.replicate (10 - i) 0).set i 67108863 = List.replicate (i + 1) 67108863 ++ List.replicate (10 - (i + 1)) 0 := by
  have : ∀ i : Fin 10, (List.replicate i.val (67108863 : Int) ++ List.replicate (10 - i.val) 0).set i.val 67108863 = List.replicate (i.val + 1) 67108863 ++ List.replicate (10 - (i.val + 1)) 0 := by decide +kernel
  exact this ⟨i, h⟩
section
variable {B : Nat} {S R : Ents} {Q : Value → Ents → Prop}
theorem rpC (H : Q (.agg (zi (dg (q : Int))).toArray) S) : CallWp Tryz.prog B 172 #[] Q S := by
  refine CallWp.dropRet ?_
  refine CallWp.enter (args := []) Tryz.func172 rfl Tryz.ntmps172 rfl ?_
  refine Wp.seq (Wp.region ?_)
  refine OWp.step rfl (Step.alloc rfl rfl rfl ?_); intro L0 hBL0 hLL0
  refine OWp.nil ?_
  refine Wp.seq (Wp.region ?_)
  refine OWp.step rfl (Step.alloc rfl rfl rfl ?_); intro L1 hBL1 hLL1
  refine OWp.nil ?_
  refine Wp.seq ?_
  refine Wp.seq (Wp.region ?_)
  refine OWp.evs 1 rfl ?_
  refine OWp.nil ?_
  refine Wp.block ?_
  refine Wp.loopS (α := Nat) (fun i => 10 - i) (fun i => [(0, pn L0), (1, pn L1), (2, .int .i64 (i : Int))]) (fun i => (L1, cel (zi (List.replicate i 67108863 ++ List.replicate (10 - i) 0)) 100) :: (L0, cel (zi (List.replicate 10 0)) 100) :: S) (fun i => i ≤ 10) 0 ?_ (.refl _) (Nat.zero_le _) ?_
  · exact .cons rfl (.cons rfl (.cons rfl (.nil _)))
  rintro i hi
  have hlen : (List.replicate i (67108863 : Int) ++ List.replicate (10 - i) 0).length = 10 := by rw [List.length_append, List.length_replicate, List.length_replicate]; omega
  refine Wp.seq ?_
  refine Wp.seq (Wp.region ?_)
  refine OWp.evs 2 rfl ?_
  refine OWp.nil ?_
  refine Wp.cond rfl (fun h1 => ?_) (fun h1 => ?_)
  · have h1 := of_decide_eq_true h1
    have hi1 : i < 10 := by omega
    refine Wp.skip ?_
    refine Wp.seq ?_
    refine Wp.block ?_
    refine Wp.region ?_
    refine OWp.evs 1 rfl ?_
    refine OWp.g rfl rfl (Gives.indexAddrArr (i) rfl rfl rfl rfl rfl rfl (by omega)) ?_
    refine OWp.step rfl (Step.storeAs 0 (zi (List.replicate (i + 1) 67108863 ++ List.replicate (10 - (i + 1)) 0)) rfl rfl rfl rfl rfl hBL1 rfl (Unfz.zero _) rfl (by rw [zi_length, hlen]; show 0 + i * 1 + 1 ≤ 10; omega) ((zi_put (i := i) (by omega) rfl (by show 0 + i * 1 = i; omega)).trans (congrArg zi (rep_set hi1))) rfl ?_)
    refine OWp.nil ?_
    refine Wp.region ?_
    refine OWp.evs 3 rfl ?_
    refine OWp.nil ?_
    exact ⟨i + 1, by omega, by omega, .cons rfl (.cons rfl (.cons' rfl (int_eq (i64_inc' (by omega))) (.nil _))), .refl _⟩
  have h1 := of_decide_eq_false h1
  obtain rfl : i = 10 := by omega
  have hpl := dg_len (q : Int)
  have hpart := num_part hpl
  refine Wp.exit ?_
  refine Wp.seq (Wp.region ?_)
  refine OWp.g rfl rfl (Gives.indexAddrArr (0) rfl rfl rfl rfl rfl rfl (by omega)) ?_
  refine OWp.step rfl (Step.storeAs 0 (zi ((List.replicate 10 67108863).set 0 67108845)) rfl rfl rfl rfl rfl hBL1 rfl (Unfz.zero _) rfl (by decide) (zi_put (l := List.replicate 10 67108863) (i := 0) (by decide) rfl rfl) rfl ?_)
  refine OWp.nil ?_
  refine Wp.seq (Wp.region ?_)
  refine OWp.g rfl rfl (Gives.indexAddrArr (9) rfl rfl rfl rfl rfl rfl (by omega)) ?_
  refine OWp.step rfl (Step.storeAs 0 (zi (dg (q : Int))) rfl rfl rfl rfl rfl hBL1 rfl (Unfz.zero _) rfl (by decide) ((zi_put (l := (List.replicate 10 67108863).set 0 67108845) (i := 9) (by decide) rfl rfl).trans (congrArg zi p_digs)) rfl ?_)
  refine OWp.nil ?_
  refine Wp.seq (Wp.region ?_)
  refine OWp.load (.head _) rfl rfl rfl rfl (num_part hpl) ?_
  refine OWp.step rfl (Step.storeAs 1 (zi (dg (q : Int))) rfl rfl rfl rfl rfl hBL0 (show some 10 = some (zi (dg (q : Int))).length from congrArg some (((zi_length _).trans hpl).symm)) (Unfz.zero _) (zi_one _) (show 0 + (zi (dg (q : Int))).length ≤ _ from len_le ((zi_length _).trans hpl) rfl) (wr_whole (show (zi (dg (q : Int))).length = _ from ((zi_length _).trans hpl).trans (Eq.symm rfl))) rfl ?_)
  refine OWp.nil ?_
  refine Wp.ret ⟨trivial, _, ⟨_, _, _, _, rfl, rfl, ⟨_, _, _, mems, (by first | assumption | rfl)⟩, rfl⟩, ?_⟩
  exact ⟨S, subl, H⟩
theorem rlessC {V W : Int} (H : Q (.bool (decide (V < W))) S) : CallWp Tryz.prog B 171 #[.agg (zi (dg V)).toArray, .agg (zi (dg W)).toArray] Q S := by
  have hV := dg_len V
  have hW := dg_len W
  refine CallWp.dropRet ?_
  refine CallWp.enter (args := [_, _]) Tryz.func171 rfl Tryz.ntmps171 rfl ?_
  refine Wp.seq (Wp.region ?_)
  refine OWp.step rfl (Step.box rfl rfl rfl ?_); intro L2 hBL2 hLL2
  refine OWp.step rfl (Step.box rfl rfl rfl ?_); intro L3 hBL3 hLL3
  refine OWp.evs 1 rfl ?_
  refine OWp.nil ?_
  refine Wp.seq ?_
  refine Wp.seq (Wp.region ?_)
  refine OWp.evs 1 rfl ?_
  refine OWp.nil ?_
  refine Wp.block ?_
  refine Wp.loopS (α := Nat) (fun j => 10 - j) (fun j => [(2, pn L2), (3, pn L3), (5, .int .i64 (9 - (j : Int)))]) (fun _ => (L3, cel (zi (dg W)) 100) :: (L2, cel (zi (dg V)) 100) :: S) (fun j => j ≤ 10 ∧ (1 ≤ j → V / 67108864 ^ (10 - j) = W / 67108864 ^ (10 - j))) 0 ?_ (.refl _) ⟨Nat.zero_le _, fun h => absurd h (by decide)⟩ ?_
  · exact .cons rfl (.cons rfl (.cons rfl (.nil _)))
  rintro j ⟨hj, he⟩
  refine Wp.seq ?_
  refine Wp.seq (Wp.region ?_)
  refine OWp.evs 2 rfl ?_
  refine OWp.nil ?_
  refine Wp.cond rfl (fun h1 => ?_) (fun h1 => ?_)
  · have h1 := of_decide_eq_true h1
    have hj1 : j < 10 := by omega
    obtain ⟨i, hi⟩ : ∃ i, i = 9 - j := ⟨_, rfl⟩
    have hi2 : (9 : Int) - (j : Int) = (i : Int) := by omega
    have hc := digs_cmp (V := V) (W := W) (i := i) (by omega) (fun h => by have := he (by omega); rwa [show 10 - j = i + 1 by omega] at this)
    have hpos : (0 : Int) < 67108864 ^ i := Int.pow_pos (by decide)
    rw [hi2]
    refine Wp.skip ?_
    refine Wp.seq ?_
    refine Wp.block ?_
    refine Wp.seq (Wp.regionDraw [0, 1, 2, 3, 4, 5, 6] [] rfl (by decide +kernel) ?_)
    refine DWp.evs 1 rfl ?_
    refine DWp.g rfl rfl rfl rfl (Gives.indexAddrArr (i) rfl rfl rfl rfl rfl rfl (by omega)) ?_
    refine DWp.load (.tail _ (.head _)) rfl rfl rfl rfl rfl rfl (zi_at (i := i) (by omega) (by show 0 + i * 1 = i; omega)) ?_
    refine DWp.evs 1 rfl ?_
    refine DWp.g rfl rfl rfl rfl (Gives.indexAddrArr (i) rfl rfl rfl rfl rfl rfl (by omega)) ?_
    refine DWp.load (.head _) rfl rfl rfl rfl rfl rfl (zi_at (i := i) (by omega) (by show 0 + i * 1 = i; omega)) ?_
    refine DWp.evs 1 rfl ?_
    refine DWp.nil ?_
    refine Wp.cond rfl (fun h2 => ?_) (fun h2 => ?_)
    · have h2 := ndT h2
      refine Wp.seq (Wp.regionDraw [0, 1, 2, 3, 4, 5, 6, 7] [] rfl (by decide +kernel) ?_)
      refine DWp.evs 1 rfl ?_
      refine DWp.g rfl rfl rfl rfl (Gives.indexAddrArr (i) rfl rfl rfl rfl rfl rfl (by omega)) ?_
      refine DWp.load (.tail _ (.head _)) rfl rfl rfl rfl rfl rfl (zi_at (i := i) (by omega) (by show 0 + i * 1 = i; omega)) ?_
      refine DWp.evs 1 rfl ?_
      refine DWp.g rfl rfl rfl rfl (Gives.indexAddrArr (i) rfl rfl rfl rfl rfl rfl (by omega)) ?_
      refine DWp.load (.head _) rfl rfl rfl rfl rfl rfl (zi_at (i := i) (by omega) (by show 0 + i * 1 = i; omega)) ?_
      refine DWp.evs 2 rfl ?_
      refine DWp.nil ?_
      refine Wp.ret ⟨trivial, _, ⟨_, _, rfl, rfl, rfl⟩, ?_⟩
      have e : decide ((dg V).getD i 0 < (dg W).getD i 0) = decide (V < W) := by
        rw [decide_eq_decide, hc.2]
        refine ⟨div_lt hpos, fun hlt => ?_⟩
        have hne : V / 67108864 ^ i ≠ W / 67108864 ^ i := fun e => h2 (hc.1.2 e)
        have := Int.ediv_le_ediv hpos (Int.le_of_lt hlt)
        omega
      rw [e]
      exact ⟨S, subl, H⟩
    have h2 := ndF h2
    refine Wp.skip ?_
    refine Wp.region ?_
    refine OWp.evs 3 rfl ?_
    refine OWp.nil ?_
    refine ⟨j + 1, by omega, ⟨by omega, fun _ => ?_⟩, .cons rfl (.cons rfl (.cons' rfl (int_eq (by rw [i64_id] <;> omega)) (.nil _))), .refl _⟩
    rw [show 10 - (j + 1) = i by omega]
    exact hc.1.1 h2
  have h1 := of_decide_eq_false h1
  obtain rfl : j = 10 := by omega
  have e := he (by decide)
  rw [Nat.sub_self, Int.pow_zero, Int.ediv_one, Int.ediv_one] at e
  rw [decide_eq_false (by omega)] at H
  refine Wp.exit ?_
  refine Wp.seq (Wp.region ?_)
  refine OWp.evs 1 rfl ?_
  refine OWp.nil ?_
  refine Wp.ret ⟨trivial, _, ⟨_, _, rfl, rfl, rfl⟩, ?_⟩
  exact ⟨S, subl, H⟩
end
end Go.Proofs.D

namespace Go.Proofs.D
open Go.Lg Go.Cv Go.Nm
open Go.Proofs.C (zi zi_length zi_one zi_append)
set_option maxRecDepth 100000
theorem quo21 {x : Int} (h : 0 ≤ x) : x.tdiv (Int.ofNat (2097151 + 1)) = x / 2097152 := by
  show x.tdiv 2097152 = _
  rw [Int.tdiv_eq_ediv_of_nonneg h]
/-- One round: what stands at 2^255 and above counts 19 times. -/
theorem round_val {V : Int} : val (((dg V).set 9 (V / 67108864 ^ 9 % 2097152)).set 0 (V % 67108864 + 19 * (V / 67108864 ^ 9 / 2097152))) = V - V / 67108864 ^ 9 / 2097152 * (q : Int) := by
  rw [val_two]
  generalize V / 67108864 ^ 9 = T
  unfold q
  omega
theorem round_pos {V : Int} (h : 0 ≤ V) : 0 ≤ V - V / 67108864 ^ 9 / 2097152 * (q : Int) := by
  have h1 : V / 67108864 ^ 9 * 67108864 ^ 9 ≤ V := by omega
  unfold q
  omega
theorem sub_mul_mod (V c : Int) : (V - c * (q : Int)) % (q : Int) = V % (q : Int) := by
  rw [Int.sub_emod, Int.mul_emod_left, Int.sub_zero, Int.emod_emod_of_dvd _ (Int.dvd_refl _)]
attribute [local irreducible] dg
section
variable {B : Nat} {S R : Ents} {Q : Value → Ents → Prop}
set_option maxHeartbeats 4000000 in
theorem rsmallC {l : List Int} (hl : l.length = 10) (hb : In l (-1152921504606846976) 1152921504606846976) (h0 : 0 ≤ val l) (H : Q (.agg (zi (dg (val l % (q : Int)))).toArray) S) : CallWp Tryz.prog B 151 #[.agg (zi l).toArray] Q S := by
  refine CallWp.dropRet ?_
  refine CallWp.enter (args := [_]) Tryz.func151 rfl Tryz.ntmps151 rfl ?_
  refine Wp.seq (Wp.region ?_)
  refine OWp.step rfl (Step.box rfl rfl rfl ?_); intro L1 hBL1 hLL1
  refine OWp.step rfl (Step.alloc rfl rfl rfl ?_); intro L2 hBL2 hLL2
  refine OWp.nil ?_
  refine Wp.seq ?_
  refine Wp.seq (Wp.region ?_)
  refine OWp.evs 1 rfl ?_
  refine OWp.nil ?_
  refine Wp.block ?_
  refine Wp.loopS (α := Nat × List Int) (fun z => 3 - z.1) (fun z => [(1, pn L1), (2, pn L2), (3, .int .i64 (z.1 : Int))]) (fun z => (L2, cel (zi (List.replicate 10 0)) 100) :: (L1, cel (zi z.2) 100) :: S) (fun z => z.1 ≤ 3 ∧ z.2.length = 10 ∧ In z.2 (-1152921504606846976) 1152921504606846976 ∧ 0 ≤ val z.2 ∧ val z.2 % (q : Int) = val l % (q : Int)) (0, l) ?_ (.refl _) ⟨Nat.zero_le _, hl, hb, h0, rfl⟩ ?_
  · exact .cons rfl (.cons rfl (.cons rfl (.nil _)))
  rintro ⟨i, k⟩ ⟨hi, hkl, hkb, hk0, hkm⟩
  simp only at hi hkl hkb hk0 hkm ⊢
  have htop := top_lt hkl hkb
  obtain ⟨V, hV⟩ : ∃ V, V = val k := ⟨_, rfl⟩
  rw [← hV] at htop hkm hk0
  have hdl := dg_len V
  refine Wp.seq ?_
  refine Wp.seq (Wp.region ?_)
  refine OWp.evs 2 rfl ?_
  refine OWp.nil ?_
  refine Wp.cond rfl (fun h1 => ?_) (fun h1 => ?_)
  · have h1 := of_decide_eq_true h1
    have hi1 : i < 3 := by omega
    refine Wp.skip ?_
    refine Wp.seq ?_
    refine Wp.block ?_
    refine Wp.seq (Wp.region ?_)
    refine OWp.load (.tail _ (.head _)) rfl rfl rfl rfl (num_part hkl) ?_
    refine OWp.step rfl (Step.call rfl rfl rfl rfl rfl rfl ((evenC hkl (hkb.mono (by decide) (by decide)) ?_)))
    rw [← hV]
    refine OWp.step rfl (Step.storeAs 1 (zi (dg V)) rfl rfl rfl rfl rfl hBL1 (show some 10 = some (zi (dg V)).length from congrArg some (((zi_length _).trans hdl).symm)) (Unfz.zero _) (zi_one _) (show 0 + (zi (dg V)).length ≤ _ from len_le ((zi_length _).trans hdl) ((zi_length _).trans hkl)) (wr_whole (show (zi (dg V)).length = _ from ((zi_length _).trans hdl).trans (Eq.symm ((zi_length _).trans hkl)))) rfl ?_)
    obtain ⟨T, hT⟩ : ∃ T, T = V / 67108864 ^ 9 := ⟨_, rfl⟩
    have hT0 : 0 ≤ T := by rw [hT]; exact Int.ediv_nonneg hk0 (by decide)
    have hT9 : (dg V).getD 9 0 = T := by rw [hT]; exact dg_top V
    rw [← hT] at htop
    have rv := round_val (V := V)
    have rp := round_pos hk0
    have rm := sub_mul_mod V (V / 67108864 ^ 9 / 2097152)
    rw [← hT] at rv rp rm
    refine OWp.nil ?_
    refine Wp.seq (Wp.region ?_)
    refine OWp.g rfl rfl (Gives.indexAddrArr (9) rfl rfl rfl rfl rfl rfl (by omega)) ?_
    refine OWp.load (.tail _ (.head _)) rfl rfl rfl rfl ((zi_at (i := 9) (by omega) rfl).trans (by rw [hT9])) ?_
    refine OWp.evs 2 rfl ?_
    refine OWp.nil ?_
    refine Wp.seq (Wp.region ?_)
    refine OWp.g rfl rfl (Gives.indexAddrArr (9) rfl rfl rfl rfl rfl rfl (by omega)) ?_
    refine OWp.load (.tail _ (.head _)) rfl rfl rfl rfl ((zi_at (i := 9) (by omega) rfl).trans (by rw [hT9])) ?_
    refine OWp.evs 3 rfl ?_
    refine OWp.g rfl rfl (Gives.indexAddrArr (9) rfl rfl rfl rfl rfl rfl (by omega)) ?_
    refine OWp.step rfl (Step.storeAs 1 (zi ((dg V).set 9 (T % 2097152))) rfl rfl rfl rfl rfl hBL1 rfl (Unfz.zero _) rfl (by rw [zi_length, hdl]; exact Nat.le_of_ble_eq_true rfl) (zi_put (i := 9) (by omega) (by rw [quo21 hT0, i64_id (x := T / 2097152) (by omega) (by omega), i64_id (x := T / 2097152 * 2097152) (by omega) (by omega), i64_id (by omega) (by omega)]; omega) rfl) rfl ?_)
    have hd1 : ((dg V).set 9 (T % 2097152)).length = 10 := by rw [List.length_set, hdl]
    have g0 : ((dg V).set 9 (T % 2097152)).getD 0 0 = V % 67108864 := by rw [List.getD_eq_getElem?_getD, List.getElem?_set_ne (by decide), ← List.getD_eq_getElem?_getD, dg_get (by decide), Int.pow_zero, Int.ediv_one]
    refine OWp.nil ?_
    refine Wp.region ?_
    refine OWp.g rfl rfl (Gives.indexAddrArr (0) rfl rfl rfl rfl rfl rfl (by omega)) ?_
    refine OWp.load (.tail _ (.head _)) rfl rfl rfl rfl ((zi_at (i := 0) (by omega) rfl).trans (by rw [g0])) ?_
    refine OWp.evs 3 rfl ?_
    refine OWp.g rfl rfl (Gives.indexAddrArr (0) rfl rfl rfl rfl rfl rfl (by omega)) ?_
    refine OWp.step rfl (Step.storeAs 1 (zi (((dg V).set 9 (T % 2097152)).set 0 (V % 67108864 + 19 * (T / 2097152)))) rfl rfl rfl rfl rfl hBL1 rfl (Unfz.zero _) rfl (by rw [zi_length, hd1]; exact Nat.le_of_ble_eq_true rfl) (zi_put (i := 0) (by omega) (by rw [quo21 hT0, i64_id (x := T / 2097152) (by omega) (by omega), i64_id (x := 19 * (T / 2097152)) (by omega) (by omega), i64_id (by omega) (by omega)]) rfl) rfl ?_)
    refine OWp.nil ?_
    refine Wp.region ?_
    refine OWp.evs 3 rfl ?_
    refine OWp.nil ?_
    refine ⟨(i + 1, ((dg V).set 9 (T % 2097152)).set 0 (V % 67108864 + 19 * (T / 2097152))), by simp only; omega, ⟨by simp only; omega, by simp only [List.length_set, hdl], in_two (by omega) (by omega) (by decide) (by decide), ?_, ?_⟩, .cons rfl (.cons rfl (.cons' rfl (int_eq (i64_inc' (by omega))) (.nil _))), .refl _⟩
    · simp only; rw [rv]; exact rp
    · simp only; rw [rv, rm, hkm]
  have h1 := of_decide_eq_false h1
  obtain rfl : i = 3 := by omega
  refine Wp.exit ?_
  refine Wp.seq (Wp.region ?_)
  refine OWp.load (.tail _ (.head _)) rfl rfl rfl rfl (num_part hkl) ?_
  refine OWp.step rfl (Step.call rfl rfl rfl rfl rfl rfl ((evenC hkl (hkb.mono (by decide) (by decide)) ?_)))
  rw [← hV]
  refine OWp.step rfl (Step.storeAs 1 (zi (dg V)) rfl rfl rfl rfl rfl hBL1 (show some 10 = some (zi (dg V)).length from congrArg some (((zi_length _).trans hdl).symm)) (Unfz.zero _) (zi_one _) (show 0 + (zi (dg V)).length ≤ _ from len_le ((zi_length _).trans hdl) ((zi_length _).trans hkl)) (wr_whole (show (zi (dg V)).length = _ from ((zi_length _).trans hdl).trans (Eq.symm ((zi_length _).trans hkl)))) rfl ?_)
  have hVt : V / 67108864 ^ 9 < 2305843009213693952 := htop
  refine OWp.nil ?_
  refine Wp.seq ?_
  refine Wp.block ?_
  refine Wp.loopS (α := Int) (fun z => (z / (q : Int)).toNat) (fun _ => [(1, pn L1), (2, pn L2)]) (fun z => (L2, cel (zi (List.replicate 10 0)) 100) :: (L1, cel (zi (dg z)) 100) :: S) (fun z => 0 ≤ z ∧ z ≤ V ∧ z % (q : Int) = val l % (q : Int)) V ?_ (.refl _) ⟨hk0, Int.le_refl _, hkm⟩ ?_
  · exact .cons rfl (.cons rfl (.nil _))
  rintro z ⟨hz0, hzV, hzm⟩
  have hzl := dg_len z
  refine Wp.seq ?_
  refine Wp.seq (Wp.regionDraw [0, 1, 2, 3] [1, 2] rfl (by decide +kernel) ?_)
  refine DWp.load (.tail _ (.head _)) rfl rfl rfl rfl rfl rfl (num_part hzl) ?_
  refine DWp.stepGrow rfl rfl rfl (Step.call rfl rfl rfl rfl rfl rfl ((rpC ?_)))
  refine ⟨fun _ hy => hy, ?_⟩
  refine DWp.stepAll rfl rfl rfl rfl (Step.call rfl rfl rfl rfl rfl rfl ((rlessC ?_)))
  refine DWp.evs 1 rfl ?_
  refine DWp.nil ?_
  refine Wp.cond rfl (fun h2 => ?_) (fun h2 => ?_)
  · skip
    have h2' : (q : Int) ≤ z := by
      have : ¬ z < (q : Int) := by simpa using h2
      omega
    refine Wp.skip ?_
    refine Wp.block ?_
    refine Wp.seq (Wp.region ?_)
    refine OWp.step rfl (Step.call rfl rfl rfl rfl rfl rfl ((rpC ?_)))
    refine OWp.step rfl (Step.alloc rfl rfl rfl ?_); intro L5 hBL5 hLL5
    have hql := dg_len (q : Int)
    refine OWp.step rfl (Step.storeAs 0 (zi (dg (q : Int))) rfl rfl rfl rfl rfl hBL5 (show some 10 = some (zi (dg (q : Int))).length from congrArg some (((zi_length _).trans hql).symm)) (Unfz.zero _) (zi_one _) (show 0 + (zi (dg (q : Int))).length ≤ _ from len_le ((zi_length _).trans hql) rfl) (wr_whole (show (zi (dg (q : Int))).length = _ from ((zi_length _).trans hql).trans (Eq.symm rfl))) rfl ?_)
    have hzt : z / 67108864 ^ 9 < 2305843009213693952 := Int.lt_of_le_of_lt (Int.ediv_le_ediv (by decide) hzV) hVt
    have hzi := dg_in hz0 (b := 2305843009213693952) (by decide) (Int.le_of_lt hzt)
    have hqi : In (dg (q : Int)) 0 67108863 := dg_in (by decide) (by decide) (by decide +kernel)
    refine OWp.nil ?_
    refine Wp.seq ?_
    refine Wp.seq (Wp.region ?_)
    refine OWp.evs 1 rfl ?_
    refine OWp.nil ?_
    refine Wp.block ?_
    refine Wp.loopS (α := Nat × List Int) (fun y => 10 - y.1) (fun y => [(1, pn L1), (2, pn L2), (5, pn L5), (6, .int .i64 (y.1 : Int))]) (fun y => (L5, cel (zi (dg (q : Int))) 100) :: (L2, cel (zi (List.replicate 10 0)) 100) :: (L1, cel (zi y.2) 100) :: S) (fun y => y.1 ≤ 10 ∧ y.2.length = 10 ∧ In y.2 (-67108863) 2305843009213693952 ∧ (∀ j, y.1 ≤ j → y.2.getD j 0 = (dg z).getD j 0) ∧ val y.2 = z - val ((dg (q : Int)).take y.1)) (0, dg z) ?_ (.refl _) ⟨Nat.zero_le _, hzl, hzi.mono (by decide) (by decide), fun _ _ => rfl, by simp [val, val_dg]⟩ ?_
    · exact .cons rfl (.cons rfl (.cons rfl (.cons rfl (.nil _))))
    rintro ⟨i, y⟩ ⟨hi, hyl, hyi, hys, hyv⟩
    simp only at hi hyl hyi hys hyv ⊢
    refine Wp.seq ?_
    refine Wp.seq (Wp.region ?_)
    refine OWp.evs 2 rfl ?_
    refine OWp.nil ?_
    refine Wp.cond rfl (fun h3 => ?_) (fun h3 => ?_)
    · have h3 := of_decide_eq_true h3
      have hi1 : i < 10 := by omega
      have b1 := hyi i (by omega)
      have b2 := hqi i (by omega)
      have b3 := hzi i (by omega)
      have e1 := hys i (Nat.le_refl _)
      refine Wp.skip ?_
      refine Wp.seq ?_
      refine Wp.block ?_
      refine Wp.regionDraw [0, 1, 2, 3, 4, 5, 6, 7, 8] [8] rfl (by decide +kernel) ?_
      refine DWp.evs 1 rfl ?_
      refine DWp.g rfl rfl rfl rfl (Gives.indexAddrArr (i) rfl rfl rfl rfl rfl rfl (by omega)) ?_
      refine DWp.load (.tail _ (.tail _ (.head _))) rfl rfl rfl rfl rfl rfl (zi_at (i := i) (by omega) (by show 0 + i * 1 = i; omega)) ?_
      refine DWp.evs 1 rfl ?_
      refine DWp.g rfl rfl rfl rfl (Gives.indexAddrArr (i) rfl rfl rfl rfl rfl rfl (by omega)) ?_
      refine DWp.load (.head _) rfl rfl rfl rfl rfl rfl (zi_at (i := i) (by omega) (by show 0 + i * 1 = i; omega)) ?_
      refine DWp.evs 1 rfl ?_
      refine DWp.g rfl rfl rfl rfl (Gives.indexAddrArr (i) rfl rfl rfl rfl rfl rfl (by omega)) ?_
      refine DWp.stepAll rfl rfl rfl rfl (Step.storeAs 2 (zi (y.set i (y.getD i 0 - (dg (q : Int)).getD i 0))) rfl rfl rfl rfl rfl hBL1 rfl (Unfz.zero _) rfl (by rw [zi_length, hyl]; show 0 + i * 1 + 1 ≤ 10; omega) (zi_put (i := i) (by omega) (by rw [i64_id] <;> omega) (by show 0 + i * 1 = i; omega)) rfl ?_)
      refine DWp.nil ?_
      refine Wp.region ?_
      refine OWp.evs 3 rfl ?_
      refine OWp.nil ?_
      refine ⟨(i + 1, y.set i (y.getD i 0 - (dg (q : Int)).getD i 0)), by simp only; omega, ⟨by simp only; omega, by simp only [List.length_set, hyl], hyi.set (by omega), ?_, ?_⟩, .cons rfl (.cons rfl (.cons rfl (.cons' rfl (int_eq (i64_inc' (by omega))) (.nil _)))), .refl _⟩
      · intro j hj
        simp only at hj ⊢
        rw [List.getD_eq_getElem?_getD, List.getElem?_set_ne (by omega), ← List.getD_eq_getElem?_getD]
        exact hys j (by omega)
      · simp only
        rw [val_set _ _ _ (by omega), hyv, val_take_succ _ _ (by omega)]
        generalize (67108864 : Int) ^ i = p
        grind
    have h3 := of_decide_eq_false h3
    obtain rfl : i = 10 := by omega
    rw [List.take_of_length_le (by omega), val_dg] at hyv
    refine Wp.exit ?_
    refine Wp.region ?_
    refine OWp.load (.tail _ (.tail _ (.head _))) rfl rfl rfl rfl (num_part hyl) ?_
    refine OWp.step rfl (Step.call rfl rfl rfl rfl rfl rfl ((evenC hyl (hyi.mono (by decide) (by decide)) ?_)))
    rw [hyv]
    have hzl2 := dg_len (z - (q : Int))
    refine OWp.step rfl (Step.storeAs 2 (zi (dg (z - (q : Int)))) rfl rfl rfl rfl rfl hBL1 (show some 10 = some (zi (dg (z - (q : Int)))).length from congrArg some (((zi_length _).trans hzl2).symm)) (Unfz.zero _) (zi_one _) (show 0 + (zi (dg (z - (q : Int)))).length ≤ _ from len_le ((zi_length _).trans hzl2) ((zi_length _).trans hyl)) (wr_whole (show (zi (dg (z - (q : Int)))).length = _ from ((zi_length _).trans hzl2).trans (Eq.symm ((zi_length _).trans hyl)))) rfl ?_)
    refine OWp.dropAt 0 rfl ?_
    refine OWp.nil ?_
    refine ⟨z - (q : Int), ?_, ⟨by omega, by unfold q; omega, ?_⟩, .cons rfl (.cons rfl (.nil _)), .refl _⟩
    · unfold q at h2' ⊢; omega
    · have := sub_mul_mod z 1; rw [Int.one_mul] at this; rw [this, hzm]
  have h2' : z < (q : Int) := by simpa using h2
  have e : z = val l % (q : Int) := by rw [← hzm, Int.emod_eq_of_lt hz0 h2']
  have hpart := num_part hzl
  refine Wp.exit ?_
  refine Wp.seq (Wp.region ?_)
  refine OWp.load (.tail _ (.head _)) rfl rfl rfl rfl (num_part hzl) ?_
  refine OWp.step rfl (Step.storeAs 0 (zi (dg z)) rfl rfl rfl rfl rfl hBL2 (show some 10 = some (zi (dg z)).length from congrArg some (((zi_length _).trans hzl).symm)) (Unfz.zero _) (zi_one _) (show 0 + (zi (dg z)).length ≤ _ from len_le ((zi_length _).trans hzl) rfl) (wr_whole (show (zi (dg z)).length = _ from ((zi_length _).trans hzl).trans (Eq.symm rfl))) rfl ?_)
  rw [← e] at H
  refine OWp.nil ?_
  refine Wp.ret ⟨trivial, _, ⟨_, _, _, _, rfl, rfl, ⟨_, _, _, mems, (by first | assumption | rfl)⟩, rfl⟩, ?_⟩
  exact ⟨S, subl, H⟩
end
end Go.Proofs.D

namespace Go.Proofs.D
open Go.Lg Go.Cv Go.Nm
open Go.Proofs.C (zi zi_length zi_one zi_append)
set_option maxRecDepth 100000
/-- A number of the reference. -/
def nmV (n : Nat) : Value := .agg (zi (dg (n : Int))).toArray
theorem nm_in {n : Nat} (h : n < q) : In (dg (n : Int)) 0 67108863 := dg_in (by omega) (by decide) (by unfold q at h; omega)
theorem dg_small (x : Int) (h0 : 0 ≤ x) (h : x < 67108864) : dg x = [x, 0, 0, 0, 0, 0, 0, 0, 0, 0] := by
  have e1 : x % 67108864 = x := Int.emod_eq_of_lt h0 h
  have e2 : x / 67108864 = 0 := by omega
  simp [dg, dig, e1, e2]
theorem nmV_small {n : Nat} (h : n < 67108864) : nmV n = .agg #[.int .i64 (n : Int), .int .i64 0, .int .i64 0, .int .i64 0, .int .i64 0, .int .i64 0, .int .i64 0, .int .i64 0, .int .i64 0, .int .i64 0] := by
  unfold nmV
  rw [dg_small _ (by omega) (by omega)]
  rfl
theorem set_beyond {l m : List Int} {i : Nat} {x : Int} (h : ∀ j, i ≤ j → l.getD j 0 = m.getD j 0) : ∀ j, i + 1 ≤ j → (l.set i x).getD j 0 = m.getD j 0 := fun j hj => by
  rw [List.getD_eq_getElem?_getD, List.getElem?_set_ne (by omega), ← List.getD_eq_getElem?_getD]
  exact h j (by omega)
attribute [local irreducible] dg
section
variable {B : Nat} {S R : Ents} {Q : Value → Ents → Prop}
theorem rsmallN {l : List Int} {n : Nat} (hl : l.length = 10) (hb : In l (-1152921504606846976) 1152921504606846976) (hv : val l = (n : Int)) (H : Q (nmV (n % q)) S) : CallWp Tryz.prog B 151 #[.agg (zi l).toArray] Q S := by
  refine rsmallC hl hb (by omega) ?_
  rw [hv]
  exact H
theorem roneC (H : Q (nmV 1) S) : CallWp Tryz.prog B 117 #[] Q S := by
  rw [nmV_small (by decide)] at H
  refine CallWp.dropRet ?_
  refine CallWp.enter (args := []) Tryz.func117 rfl Tryz.ntmps117 rfl ?_
  refine Wp.seq (Wp.region ?_)
  refine OWp.step rfl (Step.alloc rfl rfl rfl ?_); intro L0 hBL0 hLL0
  refine OWp.nil ?_
  refine Wp.seq (Wp.region ?_)
  refine OWp.g rfl rfl (Gives.build rfl rfl) ?_
  refine OWp.step rfl (Step.storeAs 0 ([.int .i64 1, .int .i64 0, .int .i64 0, .int .i64 0, .int .i64 0, .int .i64 0, .int .i64 0, .int .i64 0, .int .i64 0, .int .i64 0]) rfl rfl rfl rfl rfl (by assumption) rfl (Unfz.zero _) rfl (Nat.le_of_ble_eq_true rfl) rfl rfl ?_)
  refine OWp.nil ?_
  refine Wp.ret ⟨trivial, _, ⟨_, _, _, _, rfl, rfl, ⟨_, _, _, mems, (by first | assumption | rfl)⟩, rfl⟩, ?_⟩
  exact ⟨S, subl, H⟩
set_option maxHeartbeats 1000000 in
theorem rplusC {a b : Nat} (ha : a < q) (hb : b < q) (H : Q (nmV (addq a b)) S) : CallWp Tryz.prog B 115 #[nmV a, nmV b] Q S := by
  have hal := dg_len (a : Int)
  have hbl := dg_len (b : Int)
  have hai := nm_in ha
  have hbi := nm_in hb
  have hpl := dg_len ((addq a b : Nat) : Int)
  have hpart := num_part hpl
  refine CallWp.dropRet ?_
  show CallWp _ _ _ #[.agg (zi (dg (a : Int))).toArray, .agg (zi (dg (b : Int))).toArray] _ _
  refine CallWp.enter (args := [_, _]) Tryz.func115 rfl Tryz.ntmps115 rfl ?_
  refine Wp.seq (Wp.region ?_)
  refine OWp.step rfl (Step.box rfl rfl rfl ?_); intro L2 hBL2 hLL2
  refine OWp.step rfl (Step.box rfl rfl rfl ?_); intro L3 hBL3 hLL3
  refine OWp.step rfl (Step.alloc rfl rfl rfl ?_); intro L4 hBL4 hLL4
  refine OWp.nil ?_
  refine Wp.seq ?_
  refine Wp.seq (Wp.region ?_)
  refine OWp.evs 1 rfl ?_
  refine OWp.nil ?_
  refine Wp.block ?_
  refine Wp.loopS (α := Nat × List Int) (fun y => 10 - y.1) (fun y => [(2, pn L2), (3, pn L3), (4, pn L4), (5, .int .i64 (y.1 : Int))]) (fun y => (L4, cel (zi (List.replicate 10 0)) 100) :: (L3, cel (zi (dg (b : Int))) 100) :: (L2, cel (zi y.2) 100) :: S) (fun y => y.1 ≤ 10 ∧ y.2.length = 10 ∧ In y.2 0 134217726 ∧ (∀ j, y.1 ≤ j → y.2.getD j 0 = (dg (a : Int)).getD j 0) ∧ val y.2 = a + val ((dg (b : Int)).take y.1)) (0, dg (a : Int)) ?_ (.refl _) ⟨Nat.zero_le _, hal, hai.mono (by decide) (by decide), fun _ _ => rfl, by simp [val, val_dg]⟩ ?_
  · exact .cons rfl (.cons rfl (.cons rfl (.cons rfl (.nil _))))
  rintro ⟨i, y⟩ ⟨hi, hyl, hyi, hys, hyv⟩
  simp only at hi hyl hyi hys hyv ⊢
  refine Wp.seq ?_
  refine Wp.seq (Wp.region ?_)
  refine OWp.evs 2 rfl ?_
  refine OWp.nil ?_
  refine Wp.cond rfl (fun h3 => ?_) (fun h3 => ?_)
  · have h3 := of_decide_eq_true h3
    have hi1 : i < 10 := by omega
    have b1 := hai i (by omega)
    have b2 := hbi i (by omega)
    have e1 := hys i (Nat.le_refl _)
    refine Wp.skip ?_
    refine Wp.seq ?_
    refine Wp.block ?_
    refine Wp.regionDraw [0, 1, 2, 3, 4, 5, 6, 7, 8] [8] rfl (by decide +kernel) ?_
    refine DWp.evs 1 rfl ?_
    refine DWp.g rfl rfl rfl rfl (Gives.indexAddrArr (i) rfl rfl rfl rfl rfl rfl (by omega)) ?_
    refine DWp.load (.tail _ (.tail _ (.head _))) rfl rfl rfl rfl rfl rfl (zi_at (i := i) (by omega) (by show 0 + i * 1 = i; omega)) ?_
    refine DWp.evs 1 rfl ?_
    refine DWp.g rfl rfl rfl rfl (Gives.indexAddrArr (i) rfl rfl rfl rfl rfl rfl (by omega)) ?_
    refine DWp.load (.tail _ (.head _)) rfl rfl rfl rfl rfl rfl (zi_at (i := i) (by omega) (by show 0 + i * 1 = i; omega)) ?_
    refine DWp.evs 1 rfl ?_
    refine DWp.g rfl rfl rfl rfl (Gives.indexAddrArr (i) rfl rfl rfl rfl rfl rfl (by omega)) ?_
    refine DWp.stepAll rfl rfl rfl rfl (Step.storeAs 2 (zi (y.set i (y.getD i 0 + (dg (b : Int)).getD i 0))) rfl rfl rfl rfl rfl hBL2 rfl (Unfz.zero _) rfl (by rw [zi_length, hyl]; show 0 + i * 1 + 1 ≤ 10; omega) (zi_put (i := i) (by omega) (by rw [i64_id] <;> omega) (by show 0 + i * 1 = i; omega)) rfl ?_)
    refine DWp.nil ?_
    refine Wp.region ?_
    refine OWp.evs 3 rfl ?_
    refine OWp.nil ?_
    refine ⟨(i + 1, y.set i (y.getD i 0 + (dg (b : Int)).getD i 0)), by simp only; omega, ⟨by simp only; omega, by simp only [List.length_set, hyl], hyi.set (by omega), set_beyond hys, ?_⟩, .cons rfl (.cons rfl (.cons rfl (.cons' rfl (int_eq (i64_inc' (by omega))) (.nil _)))), .refl _⟩
    simp only
    rw [val_set _ _ _ (by omega), hyv, val_take_succ _ _ (by omega)]
    generalize (67108864 : Int) ^ i = p
    grind
  have h3 := of_decide_eq_false h3
  obtain rfl : i = 10 := by omega
  rw [List.take_of_length_le (by omega), val_dg] at hyv
  refine Wp.exit ?_
  refine Wp.seq (Wp.region ?_)
  refine OWp.load (.tail _ (.tail _ (.head _))) rfl rfl rfl rfl (num_part hyl) ?_
  refine OWp.step rfl (Step.call rfl rfl rfl rfl rfl rfl ((rsmallN (n := a + b) hyl (hyi.mono (by decide) (by decide)) (by rw [hyv]; omega) ?_)))
  refine OWp.step rfl (Step.storeAs 0 (zi (dg ((addq a b : Nat) : Int))) rfl rfl rfl rfl rfl hBL4 (show some 10 = some (zi (dg ((addq a b : Nat) : Int))).length from congrArg some (((zi_length _).trans hpl).symm)) (Unfz.zero _) (zi_one _) (show 0 + (zi (dg ((addq a b : Nat) : Int))).length ≤ _ from len_le ((zi_length _).trans hpl) rfl) (wr_whole (show (zi (dg ((addq a b : Nat) : Int))).length = _ from ((zi_length _).trans hpl).trans (Eq.symm rfl))) rfl ?_)
  refine OWp.nil ?_
  refine Wp.ret ⟨trivial, _, ⟨_, _, _, _, rfl, rfl, ⟨_, _, _, mems, (by first | assumption | rfl)⟩, rfl⟩, ?_⟩
  exact ⟨S, subl, H⟩
set_option maxHeartbeats 1000000 in
theorem rlessNC {a b : Nat} (ha : a < q) (hb : b < q) (H : Q (nmV (subq a b)) S) : CallWp Tryz.prog B 152 #[nmV a, nmV b] Q S := by
  have hal := dg_len (a : Int)
  have hbl := dg_len (b : Int)
  have hql := dg_len (q : Int)
  have hai := nm_in ha
  have hbi := nm_in hb
  have hqi : In (dg (q : Int)) 0 67108863 := dg_in (by decide) (by decide) (by decide +kernel)
  have hpl := dg_len ((subq a b : Nat) : Int)
  have hpart := num_part hpl
  refine CallWp.dropRet ?_
  show CallWp _ _ _ #[.agg (zi (dg (a : Int))).toArray, .agg (zi (dg (b : Int))).toArray] _ _
  refine CallWp.enter (args := [_, _]) Tryz.func152 rfl Tryz.ntmps152 rfl ?_
  refine Wp.seq (Wp.region ?_)
  refine OWp.step rfl (Step.box rfl rfl rfl ?_); intro L2 hBL2 hLL2
  refine OWp.step rfl (Step.box rfl rfl rfl ?_); intro L3 hBL3 hLL3
  refine OWp.step rfl (Step.alloc rfl rfl rfl ?_); intro L4 hBL4 hLL4
  refine OWp.nil ?_
  refine Wp.seq (Wp.region ?_)
  refine OWp.step rfl (Step.call rfl rfl rfl rfl rfl rfl ((rpC ?_)))
  refine OWp.step rfl (Step.alloc rfl rfl rfl ?_); intro L5 hBL5 hLL5
  refine OWp.step rfl (Step.storeAs 0 (zi (dg (q : Int))) rfl rfl rfl rfl rfl hBL5 (show some 10 = some (zi (dg (q : Int))).length from congrArg some (((zi_length _).trans hql).symm)) (Unfz.zero _) (zi_one _) (show 0 + (zi (dg (q : Int))).length ≤ _ from len_le ((zi_length _).trans hql) rfl) (wr_whole (show (zi (dg (q : Int))).length = _ from ((zi_length _).trans hql).trans (Eq.symm rfl))) rfl ?_)
  refine OWp.nil ?_
  refine Wp.seq ?_
  refine Wp.seq (Wp.region ?_)
  refine OWp.evs 1 rfl ?_
  refine OWp.nil ?_
  refine Wp.block ?_
  refine Wp.loopS (α := Nat × List Int) (fun y => 10 - y.1) (fun y => [(2, pn L2), (3, pn L3), (4, pn L4), (5, pn L5), (6, .int .i64 (y.1 : Int))]) (fun y => (L5, cel (zi (dg (q : Int))) 100) :: (L4, cel (zi (List.replicate 10 0)) 100) :: (L3, cel (zi (dg (b : Int))) 100) :: (L2, cel (zi y.2) 100) :: S) (fun y => y.1 ≤ 10 ∧ y.2.length = 10 ∧ In y.2 (-134217726) 134217726 ∧ (∀ j, y.1 ≤ j → y.2.getD j 0 = (dg (a : Int)).getD j 0) ∧ val y.2 = a + val ((dg (q : Int)).take y.1) - val ((dg (b : Int)).take y.1)) (0, dg (a : Int)) ?_ (.refl _) ⟨Nat.zero_le _, hal, hai.mono (by decide) (by decide), fun _ _ => rfl, by simp [val, val_dg]⟩ ?_
  · exact .cons rfl (.cons rfl (.cons rfl (.cons rfl (.cons rfl (.nil _)))))
  rintro ⟨i, y⟩ ⟨hi, hyl, hyi, hys, hyv⟩
  simp only at hi hyl hyi hys hyv ⊢
  refine Wp.seq ?_
  refine Wp.seq (Wp.region ?_)
  refine OWp.evs 2 rfl ?_
  refine OWp.nil ?_
  refine Wp.cond rfl (fun h3 => ?_) (fun h3 => ?_)
  · have h3 := of_decide_eq_true h3
    have hi1 : i < 10 := by omega
    have b1 := hai i (by omega)
    have b2 := hbi i (by omega)
    have b3 := hqi i (by omega)
    have e1 := hys i (Nat.le_refl _)
    refine Wp.skip ?_
    refine Wp.seq ?_
    refine Wp.block ?_
    refine Wp.regionDraw [0, 1, 2, 3, 4, 5, 6, 7, 8, 9, 10, 11, 12] [12] rfl (by decide +kernel) ?_
    refine DWp.evs 1 rfl ?_
    refine DWp.g rfl rfl rfl rfl (Gives.indexAddrArr (i) rfl rfl rfl rfl rfl rfl (by omega)) ?_
    refine DWp.load (.tail _ (.tail _ (.tail _ (.head _)))) rfl rfl rfl rfl rfl rfl (zi_at (i := i) (by omega) (by show 0 + i * 1 = i; omega)) ?_
    refine DWp.evs 1 rfl ?_
    refine DWp.g rfl rfl rfl rfl (Gives.indexAddrArr (i) rfl rfl rfl rfl rfl rfl (by omega)) ?_
    refine DWp.load (.head _) rfl rfl rfl rfl rfl rfl (zi_at (i := i) (by omega) (by show 0 + i * 1 = i; omega)) ?_
    refine DWp.evs 1 rfl ?_
    refine DWp.g rfl rfl rfl rfl (Gives.indexAddrArr (i) rfl rfl rfl rfl rfl rfl (by omega)) ?_
    refine DWp.load (.tail _ (.tail _ (.head _))) rfl rfl rfl rfl rfl rfl (zi_at (i := i) (by omega) (by show 0 + i * 1 = i; omega)) ?_
    refine DWp.evs 2 rfl ?_
    refine DWp.g rfl rfl rfl rfl (Gives.indexAddrArr (i) rfl rfl rfl rfl rfl rfl (by omega)) ?_
    refine DWp.stepAll rfl rfl rfl rfl (Step.storeAs 3 (zi (y.set i (y.getD i 0 + ((dg (q : Int)).getD i 0 - (dg (b : Int)).getD i 0)))) rfl rfl rfl rfl rfl hBL2 rfl (Unfz.zero _) rfl (by rw [zi_length, hyl]; show 0 + i * 1 + 1 ≤ 10; omega) (zi_put (i := i) (by omega) (by rw [i64_id (x := (dg (q : Int)).getD i 0 - (dg (b : Int)).getD i 0) (by omega) (by omega), i64_id (by omega) (by omega)]) (by show 0 + i * 1 = i; omega)) rfl ?_)
    refine DWp.nil ?_
    refine Wp.region ?_
    refine OWp.evs 3 rfl ?_
    refine OWp.nil ?_
    refine ⟨(i + 1, y.set i (y.getD i 0 + ((dg (q : Int)).getD i 0 - (dg (b : Int)).getD i 0))), by simp only; omega, ⟨by simp only; omega, by simp only [List.length_set, hyl], hyi.set (by omega), set_beyond hys, ?_⟩, .cons rfl (.cons rfl (.cons rfl (.cons rfl (.cons' rfl (int_eq (i64_inc' (by omega))) (.nil _))))), .refl _⟩
    simp only
    rw [val_set _ _ _ (by omega), hyv, val_take_succ _ _ (by omega), val_take_succ _ _ (by omega)]
    generalize (67108864 : Int) ^ i = p
    grind
  have h3 := of_decide_eq_false h3
  obtain rfl : i = 10 := by omega
  rw [List.take_of_length_le (by omega), List.take_of_length_le (by omega), val_dg, val_dg] at hyv
  refine Wp.exit ?_
  refine Wp.seq (Wp.region ?_)
  refine OWp.load (.tail _ (.tail _ (.tail _ (.head _)))) rfl rfl rfl rfl (num_part hyl) ?_
  have hsub : (a + 1 * q - b) % q = subq a b := subq_add (by omega)
  refine OWp.step rfl (Step.call rfl rfl rfl rfl rfl rfl ((rsmallN (n := a + 1 * q - b) hyl (hyi.mono (by decide) (by decide)) (by rw [hyv]; omega) ?_)))
  rw [hsub]
  refine OWp.step rfl (Step.storeAs 1 (zi (dg ((subq a b : Nat) : Int))) rfl rfl rfl rfl rfl hBL4 (show some 10 = some (zi (dg ((subq a b : Nat) : Int))).length from congrArg some (((zi_length _).trans hpl).symm)) (Unfz.zero _) (zi_one _) (show 0 + (zi (dg ((subq a b : Nat) : Int))).length ≤ _ from len_le ((zi_length _).trans hpl) rfl) (wr_whole (show (zi (dg ((subq a b : Nat) : Int))).length = _ from ((zi_length _).trans hpl).trans (Eq.symm rfl))) rfl ?_)
  refine OWp.nil ?_
  refine Wp.ret ⟨trivial, _, ⟨_, _, _, _, rfl, rfl, ⟨_, _, _, mems, (by first | assumption | rfl)⟩, rfl⟩, ?_⟩
  exact ⟨S, subl, H⟩
end
end Go.Proofs.D

namespace Go.Proofs.D
open Go.Lg Go.Cv Go.Nm
open Go.Proofs.C (zi zi_length zi_one zi_append)
set_option maxRecDepth 100000
theorem mul_in {x y : Int} (hx : 0 ≤ x ∧ x ≤ 67108863) (hy : 0 ≤ y ∧ y ≤ 67108863) : 0 ≤ x * y ∧ x * y ≤ 4503599627370496 := by
  have h1 := Int.mul_nonneg hx.1 hy.1
  have h2 := Int.mul_le_mul hx.2 hy.2 hy.1 (by decide)
  omega
theorem dig_in19 {a b : Nat} (ha : a < q) (hb : b < q) : In (dig 19 ((a : Int) * b)) 0 67108863 := by
  have h : ((a : Int) * b) < 67108864 ^ 20 := by
    have : a * b < q * q := Nat.mul_lt_mul'' ha hb
    have h2 : q * q < 67108864 ^ 20 := by decide +kernel
    rw [show (67108864 : Int) ^ 20 = ((67108864 ^ 20 : Nat) : Int) from (Int.natCast_pow 67108864 20).symm, ← Int.natCast_mul]
    exact Int.ofNat_lt.2 (Nat.lt_trans this h2)
  have h0 : (0 : Int) ≤ (a : Int) * b := Int.mul_nonneg (by omega) (by omega)
  refine (dig_in 19 _ h0).mono (Int.le_refl _) ?_
  generalize (a : Int) * b = V at *
  omega
theorem val_rep : ∀ n : Nat, val (List.replicate n 0) = 0
  | 0 => rfl
  | n + 1 => by rw [List.replicate_succ, val, val_rep n]; rfl
theorem getD_rep (n j : Nat) : (List.replicate n (0 : Int)).getD j 0 = 0 := by
  rw [List.getD_eq_getElem?_getD, List.getElem?_replicate]
  split <;> rfl
theorem fold_mod {a b : Nat} {x y : Int} {n : Nat} (h : x + 67108864 ^ 10 * y = (a : Int) * b) (hy : 0 ≤ y) (hn : x + 608 * y = (n : Int)) : n % q = mulq a b := by
  unfold mulq
  obtain ⟨m, rfl⟩ : ∃ m : Nat, y = m := ⟨y.toNat, by omega⟩
  have e : a * b = n + q * (32 * m) := by
    have : ((a * b : Nat) : Int) = ((n + q * (32 * m) : Nat) : Int) := by
      push_cast
      rw [← h, ← hn]
      unfold q
      omega
    exact_mod_cast this
  rw [e, Nat.add_mul_mod_self_left]
attribute [local irreducible] dg dig
section
variable {B : Nat} {S R : Ents} {Q : Value → Ents → Prop}
set_option maxHeartbeats 4000000 in
theorem rtimesC {a b : Nat} (ha : a < q) (hb : b < q) (H : Q (nmV (mulq a b)) S) : CallWp Tryz.prog B 116 #[nmV a, nmV b] Q S := by
  have hal := dg_len (a : Int)
  have hbl := dg_len (b : Int)
  have hai := nm_in ha
  have hbi := nm_in hb
  have hpl := dg_len ((mulq a b : Nat) : Int)
  have hpart := num_part hpl
  refine CallWp.dropRet ?_
  show CallWp _ _ _ #[.agg (zi (dg (a : Int))).toArray, .agg (zi (dg (b : Int))).toArray] _ _
  refine CallWp.enter (args := [_, _]) Tryz.func116 rfl Tryz.ntmps116 rfl ?_
  refine Wp.seq (Wp.region ?_)
  refine OWp.step rfl (Step.box rfl rfl rfl ?_); intro L2 hBL2 hLL2
  refine OWp.step rfl (Step.box rfl rfl rfl ?_); intro L3 hBL3 hLL3
  refine OWp.step rfl (Step.alloc rfl rfl rfl ?_); intro L4 hBL4 hLL4
  refine OWp.nil ?_
  refine Wp.seq (Wp.region ?_)
  refine OWp.step rfl (Step.alloc rfl rfl rfl ?_); intro L5 hBL5 hLL5
  refine OWp.nil ?_
  refine Wp.seq ?_
  refine Wp.seq (Wp.region ?_)
  refine OWp.evs 1 rfl ?_
  refine OWp.nil ?_
  refine Wp.block ?_
  refine Wp.loopS (α := Nat × List Int) (fun y => 10 - y.1) (fun y => [(2, pn L2), (3, pn L3), (4, pn L4), (5, pn L5), (6, .int .i64 (y.1 : Int))]) (fun y => (L5, cel (zi y.2) 186) :: (L4, cel (zi (List.replicate 10 0)) 100) :: (L3, cel (zi (dg (b : Int))) 100) :: (L2, cel (zi (dg (a : Int))) 100) :: S) (fun y => y.1 ≤ 10 ∧ y.2.length = 20 ∧ In y.2 0 ((10 * y.1 : Int) * 4503599627370496) ∧ val y.2 = val ((dg (a : Int)).take y.1) * b) (0, List.replicate 20 0) ?_ (.refl _) ⟨Nat.zero_le _, rfl, fun i _ => by rw [getD_rep]; simp, by simp only [List.take_zero]; rw [val_rep]; simp [val]⟩ ?_
  · exact .cons rfl (.cons rfl (.cons rfl (.cons rfl (.cons rfl (.nil _)))))
  rintro ⟨i, w⟩ ⟨hi, hwl, hwi, hwv⟩
  simp only at hi hwl hwi hwv ⊢
  refine Wp.seq ?_
  refine Wp.seq (Wp.region ?_)
  refine OWp.evs 2 rfl ?_
  refine OWp.nil ?_
  refine Wp.cond rfl (fun h1 => ?_) (fun h1 => ?_)
  · have h1 := of_decide_eq_true h1
    have hi1 : i < 10 := by omega
    have b1 := hai i (by omega)
    refine Wp.skip ?_
    refine Wp.seq ?_
    refine Wp.block ?_
    refine Wp.seq (Wp.region ?_)
    refine OWp.evs 1 rfl ?_
    refine OWp.nil ?_
    refine Wp.block ?_
    refine Wp.loopS (α := Nat × List Int) (fun y => 10 - y.1) (fun y => [(2, pn L2), (3, pn L3), (4, pn L4), (5, pn L5), (6, .int .i64 (i : Int)), (7, .int .i64 (y.1 : Int))]) (fun y => (L5, cel (zi y.2) 186) :: (L4, cel (zi (List.replicate 10 0)) 100) :: (L3, cel (zi (dg (b : Int))) 100) :: (L2, cel (zi (dg (a : Int))) 100) :: S) (fun y => y.1 ≤ 10 ∧ y.2.length = 20 ∧ In y.2 0 ((10 * i + y.1 : Int) * 4503599627370496) ∧ val y.2 = val w + 67108864 ^ i * (dg (a : Int)).getD i 0 * val ((dg (b : Int)).take y.1)) (0, w) ?_ (.refl _) ⟨Nat.zero_le _, hwl, hwi.mono (Int.le_refl _) (by simp), by simp [val]⟩ ?_
    · exact .cons rfl (.cons rfl (.cons rfl (.cons rfl (.cons rfl (.cons rfl (.nil _))))))
    rintro ⟨k, y⟩ ⟨hk, hyl, hyi, hyv⟩
    simp only at hk hyl hyi hyv ⊢
    refine Wp.seq ?_
    refine Wp.seq (Wp.region ?_)
    refine OWp.evs 2 rfl ?_
    refine OWp.nil ?_
    refine Wp.cond rfl (fun h2 => ?_) (fun h2 => ?_)
    · have h2 := of_decide_eq_true h2
      have hk1 : k < 10 := by omega
      have b2 := hbi k (by omega)
      have b3 := hyi (i + k) (by omega)
      have b4 := mul_in b1 b2
      have hik : IntKind.i64.wrap ((i : Int) + (k : Int)) = ((i + k : Nat) : Int) := by rw [i64_id] <;> omega
      refine Wp.skip ?_
      refine Wp.seq ?_
      refine Wp.block ?_
      refine Wp.regionDraw [0, 1, 2, 3, 4, 5, 6, 7, 8, 9, 10, 11, 12, 13, 14] [14] rfl (by decide +kernel) ?_
      refine DWp.evs 3 rfl ?_
      refine DWp.g rfl rfl rfl rfl (Gives.indexAddrArr (i + k) rfl rfl rfl rfl rfl (by rw [hik]) (by omega)) ?_
      refine DWp.load (.head _) rfl rfl rfl rfl rfl rfl (zi_at (i := i + k) (by omega) (by show 0 + (i + k) * 1 = i + k; omega)) ?_
      refine DWp.evs 1 rfl ?_
      refine DWp.g rfl rfl rfl rfl (Gives.indexAddrArr (i) rfl rfl rfl rfl rfl rfl (by omega)) ?_
      refine DWp.load (.tail _ (.tail _ (.tail _ (.head _)))) rfl rfl rfl rfl rfl rfl (zi_at (i := i) (by omega) (by show 0 + i * 1 = i; omega)) ?_
      refine DWp.evs 1 rfl ?_
      refine DWp.g rfl rfl rfl rfl (Gives.indexAddrArr (k) rfl rfl rfl rfl rfl rfl (by omega)) ?_
      refine DWp.load (.tail _ (.tail _ (.head _))) rfl rfl rfl rfl rfl rfl (zi_at (i := k) (by omega) (by show 0 + k * 1 = k; omega)) ?_
      refine DWp.evs 2 rfl ?_
      refine DWp.g rfl rfl rfl rfl (Gives.indexAddrArr (i + k) rfl rfl rfl rfl rfl (by rw [hik]) (by omega)) ?_
      refine DWp.stepAll rfl rfl rfl rfl (Step.storeAs 0 (zi (y.set (i + k) (y.getD (i + k) 0 + (dg (a : Int)).getD i 0 * (dg (b : Int)).getD k 0))) rfl rfl rfl rfl rfl hBL5 rfl (Unfz.zero _) rfl (by rw [zi_length, hyl]; show 0 + (i + k) * 1 + 1 ≤ 20; omega) (zi_put (i := i + k) (by omega) (by rw [i64_id (x := (dg (a : Int)).getD i 0 * (dg (b : Int)).getD k 0) (by omega) (by omega), i64_id (by omega) (by omega)]) (by show 0 + (i + k) * 1 = i + k; omega)) rfl ?_)
      refine DWp.nil ?_
      refine Wp.region ?_
      refine OWp.evs 3 rfl ?_
      refine OWp.nil ?_
      refine ⟨(k + 1, y.set (i + k) (y.getD (i + k) 0 + (dg (a : Int)).getD i 0 * (dg (b : Int)).getD k 0)), by simp only; omega, ⟨by simp only; omega, by simp only [List.length_set, hyl], (hyi.mono (Int.le_refl _) (by simp only; omega)).set (by simp only; omega), ?_⟩, .cons rfl (.cons rfl (.cons rfl (.cons rfl (.cons rfl (.cons' rfl (int_eq (i64_inc' (by omega))) (.nil _)))))), .refl _⟩
      simp only
      rw [val_set _ _ _ (by omega), hyv, val_take_succ _ _ (by omega), Int.pow_add]
      generalize (67108864 : Int) ^ i = p
      generalize (67108864 : Int) ^ k = r
      grind
    have h2 := of_decide_eq_false h2
    obtain rfl : k = 10 := by omega
    rw [List.take_of_length_le (by omega), val_dg] at hyv
    refine Wp.exit ?_
    refine Wp.region ?_
    refine OWp.evs 3 rfl ?_
    refine OWp.nil ?_
    refine ⟨(i + 1, y), by simp only; omega, ⟨by simp only; omega, hyl, hyi.mono (Int.le_refl _) (by simp only; omega), ?_⟩, .cons rfl (.cons rfl (.cons rfl (.cons rfl (.cons' rfl (int_eq (i64_inc' (by omega))) (.nil _))))), .refl _⟩
    simp only
    rw [hyv, hwv, val_take_succ _ _ (by omega), Int.add_mul]
  have h1 := of_decide_eq_false h1
  obtain rfl : i = 10 := by omega
  rw [List.take_of_length_le (by omega), val_dg] at hwv
  have hev : Nm.ev w = dig 19 ((a : Int) * b) := by rw [ev_dig 19 w hwl, hwv]
  refine Wp.exit ?_
  refine Wp.seq ?_
  refine Wp.seq (Wp.region ?_)
  refine OWp.evs 1 rfl ?_
  refine OWp.nil ?_
  refine Wp.block ?_
  refine Wp.loopS (α := Nat × List Int × List Int) (fun z => 19 - z.1) (fun z => [(4, pn L4), (5, pn L5), (8, .int .i64 (z.1 : Int))]) (fun z => (L5, cel (zi (z.2.1 ++ z.2.2)) 186) :: (L4, cel (zi (List.replicate 10 0)) 100) :: (L3, cel (zi (dg (b : Int))) 100) :: (L2, cel (zi (dg (a : Int))) 100) :: S) (fun z => z.1 ≤ 19 ∧ z.2.1.length = z.1 ∧ z.2.2.length = 20 - z.1 ∧ Nm.ev w = z.2.1 ++ Nm.ev z.2.2 ∧ In z.2.2 (-BIG - 68719476736) (BIG + 68719476736) ∧ In z.2.2.tail (-BIG) BIG) (0, [], w) ?_ (.refl _) ⟨Nat.zero_le _, rfl, hwl, rfl, hwi.mono (by decide) (by decide), by cases w with | nil => exact hwi.mono (by decide) (by decide) | cons x w => exact hwi.tail.mono (by decide) (by decide)⟩ ?_
  · exact .cons rfl (.cons rfl (.cons rfl (.nil _)))
  rintro ⟨i, d, p⟩ ⟨hi, hd, hp, he, hb1, hb2⟩
  simp only at hi hd hp he hb1 hb2 ⊢
  refine Wp.seq ?_
  refine Wp.seq (Wp.region ?_)
  refine OWp.evs 3 rfl ?_
  refine OWp.nil ?_
  refine Wp.cond rfl (fun h1 => ?_) (fun h1 => ?_)
  · have h1 := of_decide_eq_true h1
    have hi1 : i < 19 := by rw [i64_id (by omega) (by omega)] at h1; omega
    obtain ⟨x, y, r, rfl⟩ : ∃ x y r, p = x :: y :: r := by
      match p, hp with
      | x :: y :: r, _ => exact ⟨x, y, r, rfl⟩
      | [x], h => exact absurd h (by simp only [List.length_cons, List.length_nil]; omega)
      | [], h => exact absurd h (by simp only [List.length_nil]; omega)
    have hx := hb1.head
    have hy := hb2.head
    rw [List.tail_cons] at hb2
    have hlen : (d ++ x :: y :: r).length = 20 := by rw [List.length_append, hp, hd]; omega
    have g0 : (d ++ x :: y :: r).getD i 0 = x := by rw [List.getD_eq_getElem?_getD, List.getElem?_append_right (by omega), hd, Nat.sub_self]; rfl
    unfold BIG at hx hy
    refine Wp.skip ?_
    refine Wp.seq ?_
    refine Wp.block ?_
    refine Wp.seq (Wp.region ?_)
    refine OWp.evs 1 rfl ?_
    refine OWp.g rfl rfl (Gives.indexAddrArr (i) rfl rfl rfl rfl rfl rfl (by omega)) ?_
    refine OWp.load (.head _) rfl rfl rfl rfl (zi_at (i := i) (by omega) (by show 0 + i * 1 = i; omega)) ?_
    rw [g0]
    refine OWp.evs 2 rfl ?_
    refine OWp.nil ?_
    refine Wp.seq (Wp.region ?_)
    refine OWp.evs 1 rfl ?_
    refine OWp.g rfl rfl (Gives.indexAddrArr (i) rfl rfl rfl rfl rfl rfl (by omega)) ?_
    refine OWp.load (.head _) rfl rfl rfl rfl (zi_at (i := i) (by omega) (by show 0 + i * 1 = i; omega)) ?_
    rw [g0]
    refine OWp.evs 3 rfl ?_
    refine OWp.g rfl rfl (Gives.indexAddrArr (i) rfl rfl rfl rfl rfl rfl (by omega)) ?_
    refine OWp.step rfl (Step.storeAs 0 (zi (d ++ (x % 67108864) :: y :: r)) rfl rfl rfl rfl rfl hBL5 rfl (Unfz.zero _) rfl (by rw [zi_length, hlen]; show 0 + i * 1 + 1 ≤ 20; omega) ((zi_put (i := i) (by omega) (even_lo (by omega)) (by show 0 + i * 1 = i; omega)).trans (by rw [← hd, List.set_append_right _ _ (Nat.le_refl _), Nat.sub_self, List.set_cons_zero])) rfl ?_)
    have hlen2 : (d ++ (x % 67108864) :: y :: r).length = 20 := by rw [← hlen, List.length_append, List.length_append]; rfl
    have g1 : (d ++ (x % 67108864) :: y :: r).getD (i + 1) 0 = y := by rw [List.getD_eq_getElem?_getD, List.getElem?_append_right (by omega), hd, Nat.add_sub_cancel_left]; rfl
    have hii : IntKind.i64.wrap ((i : Int) + 1) = ((i + 1 : Nat) : Int) := by rw [i64_id] <;> omega
    refine OWp.nil ?_
    refine Wp.region ?_
    refine OWp.evs 2 rfl ?_
    refine OWp.g rfl rfl (Gives.indexAddrArr (i + 1) rfl rfl rfl rfl rfl (by rw [hii]) (by omega)) ?_
    refine OWp.load (.head _) rfl rfl rfl rfl (zi_at (i := i + 1) (by omega) (by show 0 + (i + 1) * 1 = i + 1; omega)) ?_
    rw [g1]
    refine OWp.evs 2 rfl ?_
    refine OWp.g rfl rfl (Gives.indexAddrArr (i + 1) rfl rfl rfl rfl rfl (by rw [hii]) (by omega)) ?_
    refine OWp.step rfl (Step.storeAs 0 (zi ((d ++ [x % 67108864]) ++ (y + x / 67108864) :: r)) rfl rfl rfl rfl rfl hBL5 rfl (Unfz.zero _) rfl (by rw [zi_length, hlen2]; show 0 + (i + 1) * 1 + 1 ≤ 20; omega) ((zi_put (i := i + 1) (by omega) (by rw [fdiv26, i64_id (x := y + x / 67108864) (by omega) (by omega)]) (by show 0 + (i + 1) * 1 = i + 1; omega)).trans (by rw [← hd, List.set_append_right _ _ (by omega), Nat.add_sub_cancel_left, List.set_cons_succ, List.set_cons_zero, List.append_assoc]; rfl)) rfl ?_)
    refine OWp.nil ?_
    refine Wp.region ?_
    refine OWp.evs 3 rfl ?_
    refine OWp.nil ?_
    exact ⟨(i + 1, d ++ [x % 67108864], (y + x / 67108864) :: r), by simp only; omega, ⟨by simp only; omega, by simp [hd], by simp only [List.length_cons] at hp ⊢; omega, by rw [he, Nm.ev, List.append_assoc]; rfl, In.cons (by unfold BIG; omega) (hb2.tail.mono (by decide) (by decide)), hb2.tail⟩, .cons rfl (.cons rfl (.cons' rfl (int_eq (i64_inc' (by omega))) (.nil _))), .refl _⟩
  have h1 := of_decide_eq_false h1
  obtain rfl : i = 19 := by rw [i64_id (by omega) (by omega)] at h1; omega
  obtain ⟨x, rfl⟩ : ∃ x, p = [x] := by
    match p, hp with
    | [x], _ => exact ⟨x, rfl⟩
    | [], h => exact absurd h (by decide)
    | _ :: _ :: _, h => exact absurd h (by simp only [List.length_cons]; omega)
  rw [show Nm.ev [x] = [x] by rw [Nm.ev], hev] at he
  rw [← he]
  obtain ⟨D, hD⟩ : ∃ D, D = dig 19 ((a : Int) * b) := ⟨_, rfl⟩
  have hDi := dig_in19 ha hb
  have hDv := val_dig 19 ((a : Int) * b)
  have hDl := dig_len 19 ((a : Int) * b)
  rw [← hD] at hDi hDv hDl ⊢
  clear hev he hb1 hb2
  refine Wp.exit ?_
  refine Wp.seq (Wp.region ?_)
  refine OWp.step rfl (Step.alloc rfl rfl rfl ?_); intro L10 hBL10 hLL10
  refine OWp.nil ?_
  refine Wp.seq ?_
  refine Wp.seq (Wp.region ?_)
  refine OWp.evs 1 rfl ?_
  refine OWp.nil ?_
  refine Wp.block ?_
  refine Wp.loopS (α := Nat × List Int) (fun y => 10 - y.1) (fun y => [(4, pn L4), (5, pn L5), (10, pn L10), (11, .int .i64 (y.1 : Int))]) (fun y => (L10, cel (zi y.2) 100) :: (L5, cel (zi D) 186) :: (L4, cel (zi (List.replicate 10 0)) 100) :: (L3, cel (zi (dg (b : Int))) 100) :: (L2, cel (zi (dg (a : Int))) 100) :: S) (fun y => y.1 ≤ 10 ∧ y.2.length = 10 ∧ In y.2 0 40869297567 ∧ (∀ j, y.1 ≤ j → y.2.getD j 0 = (List.replicate 10 (0 : Int)).getD j 0) ∧ val y.2 = val (D.take y.1) + 608 * val ((D.drop 10).take y.1)) (0, List.replicate 10 0) ?_ (.refl _) ⟨Nat.zero_le _, rfl, fun i _ => by rw [getD_rep]; simp, fun _ _ => rfl, by simp only [List.take_zero]; rw [val_rep]; simp [val]⟩ ?_
  · exact .cons rfl (.cons rfl (.cons rfl (.cons rfl (.nil _))))
  rintro ⟨i, y⟩ ⟨hi, hyl, hyi, hys, hyv⟩
  simp only at hi hyl hyi hys hyv ⊢
  refine Wp.seq ?_
  refine Wp.seq (Wp.region ?_)
  refine OWp.evs 2 rfl ?_
  refine OWp.nil ?_
  refine Wp.cond rfl (fun h3 => ?_) (fun h3 => ?_)
  · have h3 := of_decide_eq_true h3
    have hi1 : i < 10 := by omega
    have b1 := hDi i (by omega)
    have b2 := hDi (10 + i) (by omega)
    have e1 := hys i (Nat.le_refl _)
    rw [getD_rep] at e1
    have hii : IntKind.i64.wrap (10 + (i : Int)) = ((10 + i : Nat) : Int) := by rw [i64_id] <;> omega
    have hdd : (D.drop 10).getD i 0 = D.getD (10 + i) 0 := by rw [List.getD_eq_getElem?_getD, List.getElem?_drop, ← List.getD_eq_getElem?_getD]
    refine Wp.skip ?_
    refine Wp.seq ?_
    refine Wp.block ?_
    refine Wp.regionDraw [0, 1, 2, 3, 4, 5, 6, 7, 8, 9, 10, 11] [11] rfl (by decide +kernel) ?_
    refine DWp.evs 2 rfl ?_
    refine DWp.g rfl rfl rfl rfl (Gives.indexAddrArr (i) rfl rfl rfl rfl rfl rfl (by omega)) ?_
    refine DWp.load (.tail _ (.head _)) rfl rfl rfl rfl rfl rfl (zi_at (i := i) (by omega) (by show 0 + i * 1 = i; omega)) ?_
    refine DWp.evs 2 rfl ?_
    refine DWp.g rfl rfl rfl rfl (Gives.indexAddrArr (10 + i) rfl rfl rfl rfl rfl (by rw [hii]) (by omega)) ?_
    refine DWp.load (.tail _ (.head _)) rfl rfl rfl rfl rfl rfl (zi_at (i := 10 + i) (by omega) (by show 0 + (10 + i) * 1 = 10 + i; omega)) ?_
    refine DWp.evs 2 rfl ?_
    refine DWp.g rfl rfl rfl rfl (Gives.indexAddrArr (i) rfl rfl rfl rfl rfl rfl (by omega)) ?_
    refine DWp.stepAll rfl rfl rfl rfl (Step.storeAs 0 (zi (y.set i (D.getD i 0 + 608 * D.getD (10 + i) 0))) rfl rfl rfl rfl rfl hBL10 rfl (Unfz.zero _) rfl (by rw [zi_length, hyl]; show 0 + i * 1 + 1 ≤ 10; omega) (zi_put (i := i) (by omega) (by rw [i64_id (x := 608 * D.getD (10 + i) 0) (by omega) (by omega), i64_id (by omega) (by omega)]) (by show 0 + i * 1 = i; omega)) rfl ?_)
    refine DWp.nil ?_
    refine Wp.region ?_
    refine OWp.evs 3 rfl ?_
    refine OWp.nil ?_
    refine ⟨(i + 1, y.set i (D.getD i 0 + 608 * D.getD (10 + i) 0)), by simp only; omega, ⟨by simp only; omega, by simp only [List.length_set, hyl], hyi.set (by omega), set_beyond hys, ?_⟩, .cons rfl (.cons rfl (.cons rfl (.cons' rfl (int_eq (i64_inc' (by omega))) (.nil _)))), .refl _⟩
    simp only
    rw [val_set _ _ _ (by omega), hyv, val_take_succ _ _ (by omega), val_take_succ _ _ (by rw [List.length_drop]; omega), hdd, e1]
    generalize (67108864 : Int) ^ i = p
    grind
  have h3 := of_decide_eq_false h3
  obtain rfl : i = 10 := by omega
  have hsp : val (D.take 10) + 67108864 ^ 10 * val (D.drop 10) = (a : Int) * b := by
    rw [← hDv]
    conv => rhs; rw [← List.take_append_drop 10 D, val_append]
    rw [List.length_take, hDl, show min 10 (19 + 1) = 10 from rfl]
  rw [show (D.drop 10).take 10 = D.drop 10 from List.take_of_length_le (by rw [List.length_drop]; omega)] at hyv
  have hn0 : 0 ≤ val (D.drop 10) := by
    have := (val_bounds (D.drop 10) (a := 0) (b := 67108863) (fun j hj => by rw [List.length_drop] at hj; rw [List.getD_eq_getElem?_getD, List.getElem?_drop, ← List.getD_eq_getElem?_getD]; exact hDi (10 + j) (by omega)) (by decide) (by decide)).1
    omega
  have hy0 : 0 ≤ val y := by
    have := (val_bounds y hyi (by decide) (by decide)).1
    omega
  obtain ⟨n, hn⟩ : ∃ n : Nat, val y = n := ⟨(val y).toNat, by omega⟩
  refine Wp.exit ?_
  refine Wp.seq (Wp.region ?_)
  refine OWp.load (.head _) rfl rfl rfl rfl (num_part hyl) ?_
  refine OWp.step rfl (Step.call rfl rfl rfl rfl rfl rfl ((rsmallN (n := n) hyl (hyi.mono (by decide) (by decide)) hn ?_)))
  rw [fold_mod hsp hn0 (hyv.symm.trans hn)]
  refine OWp.step rfl (Step.storeAs 2 (zi (dg ((mulq a b : Nat) : Int))) rfl rfl rfl rfl rfl hBL4 (show some 10 = some (zi (dg ((mulq a b : Nat) : Int))).length from congrArg some (((zi_length _).trans hpl).symm)) (Unfz.zero _) (zi_one _) (show 0 + (zi (dg ((mulq a b : Nat) : Int))).length ≤ _ from len_le ((zi_length _).trans hpl) rfl) (wr_whole (show (zi (dg ((mulq a b : Nat) : Int))).length = _ from ((zi_length _).trans hpl).trans (Eq.symm rfl))) rfl ?_)
  refine OWp.nil ?_
  refine Wp.ret ⟨trivial, _, ⟨_, _, _, _, rfl, rfl, ⟨_, _, _, mems, (by first | assumption | rfl)⟩, rfl⟩, ?_⟩
  exact ⟨S, subl, H⟩
end
end Go.Proofs.D
