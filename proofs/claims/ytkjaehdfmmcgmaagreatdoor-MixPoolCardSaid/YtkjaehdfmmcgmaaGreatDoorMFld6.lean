/- What functions of the given program do, one after the other, told by that layer. -/
import Derived.Test.YtkjaehdfmmcgmaaGreatDoorMM1x65b0
namespace Go.Proofs.D
open Go.Lg Go.Cv
set_option maxRecDepth 100000

theorem El.len (x : El) : x.cells.length = 5 := rfl
theorem elc_nil (x : El) : elc [] x [] = x.cells := by simp [elc]
theorem PEl.parts {L : List Value} {o : Nat} {x : El} (h : ∀ i, i < 5 → L[o + i]? = x.cells[i]?) : Lg.partAt Tryz.prog 239 L o = some (.agg x.cells.toArray) := by
 refine partAt_agg (n := 5) (r := x.cells) ?_ rfl rfl rfl
 apply List.ext_getElem?
 intro i
 by_cases hi : i < 5
 ·rw [List.getElem?_take, if_pos hi, List.getElem?_drop, h i hi]
 ·rw [List.getElem?_eq_none (by rw [List.length_take]; omega), List.getElem?_eq_none (by rw [El.len]; omega)]
theorem el_part (x : El) : Lg.partAt Tryz.prog 239 x.cells 0 = some (.agg x.cells.toArray) := rfl
def El.zero : El := ⟨0, 0, 0, 0, 0⟩
section
variable {B b : Nat} {S R : Ents} {Q : Value → Ents → Prop} {p s : List Value} {x y z : El} {t : TypeId} {pa pb : Value}
/-- A product in a row of its own. -/
theorem times0C {t : TypeId} {z : El} (hB : B ≤ b) (hx : PEl ((b, cel z.cells t) :: R) pa x) (hy : PEl ((b, cel z.cells t) :: R) pb y) (hxo : x.ok) (hyo : y.ok) (H : Q (.tuple #[]) ((b, cel (timesE x y).cells t) :: R)) :
  CallWp Tryz.prog B 211 #[.pointer (some ⟨b, 0, none⟩), pa, pb] Q ((b, cel z.cells t) :: R) := by
 have := timesC (p := []) (s := []) (z := z) (t := t) (R := R) (Q := Q) hB (by rw [elc_nil]; exact hx) (by rw [elc_nil]; exact hy) hxo hyo (by rw [elc_nil]; exact H)
 rw [elc_nil] at this
 exact this
theorem PEl.own {S : Ents} {b : Nat} {x : El} {t : TypeId} {fz : Nat × Nat} (h : (b, cel x.cells t fz) ∈ S) : PEl S (.pointer (some ⟨b, 0, none⟩)) x :=
 ⟨b, 0, _, t, _, rfl, h, fun i _ => by rw [Nat.zero_add]⟩
theorem ftimesC (hx : x.ok) (hy : y.ok) (H : ∀ z : El, z.ok → z.val % q = mulq x.val y.val → Q (.agg z.cells.toArray) S) : CallWp Tryz.prog B 210 #[.agg x.cells.toArray, .agg y.cells.toArray] Q S := by
 refine CallWp.dropRet ?_
 refine Yx (args := [_, _]) Tryz.func210 Tryz.ntmps210 ?_
 refine Yq ?_
 refine Yb rfl rfl rfl rfl fun L2 hBL2 hLL2 => ?_
 refine Yb rfl rfl rfl rfl fun L3 hBL3 hLL3 => ?_
 refine Ya rfl rfl rfl rfl fun L4 hBL4 hLL4 => ?_
 refine OWp.nil ?_
 refine Yq ?_
 refine Yc rfl rfl (times0C (z := El.zero) hBL4 (PEl.own (.tail _ (.tail _ (.head _)))) (PEl.own (.tail _ (.head _))) hx hy ?_)
 refine OWp.nil ?_
 refine Yq ?_
 refine OWp.load (.head _) rfl rfl rfl rfl (el_part _) ?_
 refine OWp.step rfl (Step.storeAs 0 ((timesE x y).cells) rfl rfl rfl rfl rfl (by assumption) rfl (Unfz.zero _) rfl (Nat.le_of_ble_eq_true rfl) rfl rfl ?_)
 refine OWp.nil ?_
 refine Wp.ret ⟨trivial, _, ⟨_, _, _, _, rfl, rfl, ⟨_, _, _, mems, (by first | assumption | rfl)⟩, rfl⟩, ?_⟩
 exact ⟨S, subl, H _ (timesE_ok hx hy) (timesE_val x y)⟩
theorem squaredC {n : Nat} (hx : x.ok) (hn : n ≤ 4611686018427387904) (H : ∀ z : El, z.ok → Pw x.val z.val (2 ^ n) → Q (.agg z.cells.toArray) S) : CallWp Tryz.prog B 209 #[.agg x.cells.toArray, .int .i64 (n : Int)] Q S := by
 refine CallWp.dropRet ?_
 refine Yx (args := [_, _]) Tryz.func209 Tryz.ntmps209 ?_
 refine Yq ?_
 refine Yb rfl rfl rfl rfl fun L2 hBL2 hLL2 => ?_
 refine Ya rfl rfl rfl rfl fun L4 hBL4 hLL4 => ?_
 refine OWp.nil ?_
 refine Wp.seq ?_
 refine Yn 2 rfl ?_
 refine Wp.block ?_
 refine Wp.loopS (α := Nat × El) (fun z => n - z.1) (fun z => [(2, .pointer (some ⟨L2, 0, none⟩)), (4, .pointer (some ⟨L4, 0, none⟩)), (5, .int .i64 (n : Int)), (6, .int .i64 (z.1 : Int))]) (fun z => (L2, cel z.2.cells 239) :: (L4, cel El.zero.cells 239) :: S) (fun z => z.1 ≤ n ∧ z.2.ok ∧ Pw x.val z.2.val (2 ^ z.1)) (0, x) ?_ (.swap _ _ _) ⟨Nat.zero_le _, hx, Pw.one _⟩ ?_
 ·exact .cons rfl (.cons rfl (.cons rfl (.cons rfl (.nil _))))
 rintro ⟨i, y⟩ ⟨hi, hy, hp⟩
 simp only at hi hy hp ⊢
 refine Yn 1 rfl ?_
 refine Wp.seq ?_
 refine Wp.cond rfl (fun h1 => ?_) (fun h1 => ?_)
 ·have h1 := of_decide_eq_true h1
  refine Wp.skip ?_
  refine Wp.seq ?_
  refine Wp.block ?_
  refine Wp.region ?_
  refine Yc rfl rfl (times0C (z := y) hBL2 (PEl.own (.head _)) (PEl.own (.head _)) hy hy ?_)
  refine OWp.nil ?_
  refine Wp.region ?_
  refine Yz 2 rfl ?_
  refine ⟨(i + 1, timesE y y), by simp only; omega, ⟨by simp only; omega, timesE_ok hy hy, ?_⟩, .cons rfl (.cons rfl (.cons rfl (.cons' rfl (int_eq (by simp only; rw [i64_id] <;> omega)) (.nil _)))), .refl _⟩
  simp only
  rw [Nat.pow_succ, Nat.mul_two]
  exact hp.mul hp (timesE_val y y)
 have h1 := of_decide_eq_false h1
 obtain rfl : i = n := by omega
 refine Wp.exit ?_
 refine Yq ?_
 refine OWp.load (.head _) rfl rfl rfl rfl (el_part _) ?_
 refine OWp.step rfl (Step.storeAs 1 (y.cells) rfl rfl rfl rfl rfl (by assumption) rfl (Unfz.zero _) rfl (Nat.le_of_ble_eq_true rfl) rfl rfl ?_)
 refine OWp.nil ?_
 refine Wp.ret ⟨trivial, _, ⟨_, _, _, _, rfl, rfl, ⟨_, _, _, mems, (by first | assumption | rfl)⟩, rfl⟩, ?_⟩
 exact ⟨S, subl, H _ hy hp⟩
theorem squaredEqC {n : Nat} {m : Int} (hm : m = (n : Int)) (hx : x.ok) (hn : n ≤ 4611686018427387904) (H : ∀ z : El, z.ok → Pw x.val z.val (2 ^ n) → Q (.agg z.cells.toArray) S) : CallWp Tryz.prog B 209 #[.agg x.cells.toArray, .int .i64 m] Q S := by
 subst hm; exact squaredC hx hn H
theorem _root_.Go.Cv.Pw.sq {a x z m n : Nat} (h : Pw a x m) (g : Pw x z n) : Pw a z (m * n) := by
 unfold Pw at *
 rw [g, Nat.pow_mul, Nat.pow_mod, h, ← Nat.pow_mod]
set_option maxHeartbeats 4000000 in
theorem inverseC (hp : PEl S pa x) (hx : x.ok) (H : ∀ z : El, z.ok → z.val % q = invq x.val → Q (.agg z.cells.toArray) S) : CallWp Tryz.prog B 169 #[pa] Q S := by
 obtain ⟨ba, oa, La, ta, fa, rfl, hma, hga⟩ := hp
 have hpart := PEl.parts hga
 refine CallWp.dropRet ?_
 refine Yx (args := [_]) Tryz.func169 Tryz.ntmps169 ?_
 refine Yq ?_
 refine Ya rfl rfl rfl rfl fun L2 hBL2 hLL2 => ?_
 refine OWp.nil ?_
 refine Yg 2 rfl ?_
 refine OWp.load (.tail _ hma) rfl rfl rfl rfl hpart ?_
 refine Yc rfl rfl (squaredEqC (n := 1) rfl hx (by decide) ?_)
 intro two o2 w2
 refine Ya rfl rfl rfl rfl fun L3 hBL3 hLL3 => ?_
 refine OWp.step rfl (Step.storeAs 0 (two.cells) rfl rfl rfl rfl rfl (by assumption) rfl (Unfz.zero _) rfl (Nat.le_of_ble_eq_true rfl) rfl rfl ?_)
 have wtwo := (Pw.one x.val).sq w2
 refine OWp.nil ?_
 refine Wp.seqS (α := Nat × El) (fun z => [(0, .pointer (some ⟨ba, oa, none⟩)), (2, .pointer (some ⟨L2, 0, none⟩)), (3, .pointer (some ⟨L3, 0, none⟩)), (4, .pointer (some ⟨z.1, 0, none⟩))]) (fun z => (z.1, cel z.2.cells 239) :: (L3, cel two.cells 239) :: (L2, cel El.zero.cells 239) :: S) (fun z => B ≤ z.1 ∧ z.2.ok ∧ Pw x.val z.2.val (1 + 1 * 2 ^ 1 * 2 ^ 2)) ?_ ?_
 ·skip
  refine Wp.regionDraw [0, 1, 2, 3, 8, 8, 8, 8] [4, 5, 6, 7] rfl (by decide +kernel) ?_
  refine DWp.evs 2 rfl ?_
  refine DWp.load (.tail _ (.tail _ hma)) rfl rfl rfl rfl rfl rfl hpart ?_
  refine DWp.load (.head _) rfl rfl rfl rfl rfl rfl (el_part two) ?_
  refine DWp.forkTo [4, 6] (by decide +kernel) (by simp) ?_
  intro xx hxx
  simp only [List.mem_cons, List.mem_nil_iff, or_false] at hxx
  rcases hxx with rfl | rfl
  ·refine ⟨_, [8, 8, 8], rfl, rfl, by decide +kernel, rfl, ?_⟩
   refine (Step.call rfl rfl rfl rfl rfl rfl (squaredEqC (n := 2) rfl o2 (by decide) ?_))
   intro s os ws
   refine prs ?_
   refine DWp.forkTo [5, 6] (by decide +kernel) (by simp) ?_
   intro xx hxx
   simp only [List.mem_cons, List.mem_nil_iff, or_false] at hxx
   rcases hxx with rfl | rfl
   ·refine ⟨_, [6, 7], rfl, rfl, by decide +kernel, rfl, ?_⟩
    refine (Step.call rfl rfl rfl rfl rfl rfl (ftimesC hx os ?_))
    intro nine onine vn
    have wnine := (Pw.one x.val).mul (wtwo.sq ws) vn
    refine prs ?_
    refine DWp.step rfl rfl rfl (Step.alloc rfl rfl rfl ?_); intro L4 hBL4 hLL4
    refine prs ?_
    refine DWp.step rfl rfl rfl (Step.storeAs 0 (nine.cells) rfl rfl rfl rfl rfl (by assumption) rfl (Unfz.zero _) rfl (Nat.le_of_ble_eq_true rfl) rfl rfl ?_)
    refine prs ?_
    refine DWp.nil ?_
    exact ⟨(L4, nine), ⟨hBL4, onine, wnine⟩, .cons rfl (.cons rfl (.cons rfl (.cons rfl (.nil _)))), (.rfl)⟩
   ·refine ⟨_, [5, 7], rfl, rfl, by decide +kernel, rfl, ?_⟩
    refine (Step.alloc rfl rfl rfl ?_); intro L4 hBL4 hLL4
    refine prs ?_
    refine DWp.step rfl rfl rfl (Step.call rfl rfl rfl rfl rfl rfl (ftimesC hx os ?_))
    intro nine onine vn
    have wnine := (Pw.one x.val).mul (wtwo.sq ws) vn
    refine prs ?_
    refine DWp.step rfl rfl rfl (Step.storeAs 0 (nine.cells) rfl rfl rfl rfl rfl (by assumption) rfl (Unfz.zero _) rfl (Nat.le_of_ble_eq_true rfl) rfl rfl ?_)
    refine prs ?_
    refine DWp.nil ?_
    exact ⟨(L4, nine), ⟨hBL4, onine, wnine⟩, .cons rfl (.cons rfl (.cons rfl (.cons rfl (.nil _)))), (.rfl)⟩
  ·refine ⟨_, [4, 5, 7], rfl, rfl, by decide +kernel, rfl, ?_⟩
   refine (Step.alloc rfl rfl rfl ?_); intro L4 hBL4 hLL4
   refine prs ?_
   refine DWp.step rfl rfl rfl (Step.call rfl rfl rfl rfl rfl rfl (squaredEqC (n := 2) rfl o2 (by decide) ?_))
   intro s os ws
   refine prs ?_
   refine DWp.step rfl rfl rfl (Step.call rfl rfl rfl rfl rfl rfl (ftimesC hx os ?_))
   intro nine onine vn
   have wnine := (Pw.one x.val).mul (wtwo.sq ws) vn
   refine prs ?_
   refine DWp.step rfl rfl rfl (Step.storeAs 0 (nine.cells) rfl rfl rfl rfl rfl (by assumption) rfl (Unfz.zero _) rfl (Nat.le_of_ble_eq_true rfl) rfl rfl ?_)
   refine prs ?_
   refine DWp.nil ?_
   exact ⟨(L4, nine), ⟨hBL4, onine, wnine⟩, .cons rfl (.cons rfl (.cons rfl (.cons rfl (.nil _)))), (.rfl)⟩
 rintro ⟨L4, nine⟩ ⟨hBL4, onine, wnine⟩
 simp only at hBL4 onine wnine ⊢
 refine Yq ?_
 refine OWp.load (.head _) rfl rfl rfl rfl (el_part nine) ?_
 refine OWp.load (.tail _ (.head _)) rfl rfl rfl rfl (el_part two) ?_
 refine Yc rfl rfl (ftimesC onine o2 ?_)
 intro el oel vel
 have wel := wnine.mul wtwo vel
 refine Ya rfl rfl rfl rfl fun L5 hBL5 hLL5 => ?_
 refine OWp.step rfl (Step.storeAs 0 (el.cells) rfl rfl rfl rfl rfl (by assumption) rfl (Unfz.zero _) rfl (Nat.le_of_ble_eq_true rfl) rfl rfl ?_)
 refine OWp.nil ?_
 refine Wp.seqS (α := Nat × El) (fun z => [(0, .pointer (some ⟨ba, oa, none⟩)), (2, .pointer (some ⟨L2, 0, none⟩)), (3, .pointer (some ⟨L3, 0, none⟩)), (4, .pointer (some ⟨L4, 0, none⟩)), (5, .pointer (some ⟨L5, 0, none⟩)), (6, .pointer (some ⟨z.1, 0, none⟩))]) (fun z => (z.1, cel z.2.cells 239) :: (L5, cel el.cells 239) :: (L4, cel nine.cells 239) :: (L3, cel two.cells 239) :: (L2, cel El.zero.cells 239) :: S) (fun z => B ≤ z.1 ∧ z.2.ok ∧ Pw x.val z.2.val (1 + 1 * 2 ^ 1 * 2 ^ 2 + (1 + 1 * 2 ^ 1 * 2 ^ 2 + 1 * 2 ^ 1) * 2 ^ 1)) ?_ ?_
 ·skip
  refine Wp.regionDraw [0, 1, 6, 6, 6, 6] [2, 3, 4, 5] rfl (by decide +kernel) ?_
  refine DWp.load (.tail _ (.head _)) rfl rfl rfl rfl rfl rfl (el_part nine) ?_
  refine DWp.load (.head _) rfl rfl rfl rfl rfl rfl (el_part el) ?_
  refine DWp.forkTo [2, 4] (by decide +kernel) (by simp) ?_
  intro xx hxx
  simp only [List.mem_cons, List.mem_nil_iff, or_false] at hxx
  rcases hxx with rfl | rfl
  ·refine ⟨_, [6, 6, 6], rfl, rfl, by decide +kernel, rfl, ?_⟩
   refine (Step.call rfl rfl rfl rfl rfl rfl (squaredEqC (n := 1) rfl oel (by decide) ?_))
   intro s os ws
   refine prs ?_
   refine DWp.forkTo [3, 4] (by decide +kernel) (by simp) ?_
   intro xx hxx
   simp only [List.mem_cons, List.mem_nil_iff, or_false] at hxx
   rcases hxx with rfl | rfl
   ·refine ⟨_, [4, 5], rfl, rfl, by decide +kernel, rfl, ?_⟩
    refine (Step.call rfl rfl rfl rfl rfl rfl (ftimesC onine os ?_))
    intro ea oea vv
    have wea := wnine.mul (wel.sq ws) vv
    refine prs ?_
    refine DWp.step rfl rfl rfl (Step.alloc rfl rfl rfl ?_); intro L6 hBL6 hLL6
    refine prs ?_
    refine DWp.step rfl rfl rfl (Step.storeAs 0 (ea.cells) rfl rfl rfl rfl rfl (by assumption) rfl (Unfz.zero _) rfl (Nat.le_of_ble_eq_true rfl) rfl rfl ?_)
    refine prs ?_
    refine DWp.nil ?_
    exact ⟨(L6, ea), ⟨hBL6, oea, wea⟩, .cons rfl (.cons rfl (.cons rfl (.cons rfl (.cons rfl (.cons rfl (.nil _)))))), (.rfl)⟩
   ·refine ⟨_, [3, 5], rfl, rfl, by decide +kernel, rfl, ?_⟩
    refine (Step.alloc rfl rfl rfl ?_); intro L6 hBL6 hLL6
    refine prs ?_
    refine DWp.step rfl rfl rfl (Step.call rfl rfl rfl rfl rfl rfl (ftimesC onine os ?_))
    intro ea oea vv
    have wea := wnine.mul (wel.sq ws) vv
    refine prs ?_
    refine DWp.step rfl rfl rfl (Step.storeAs 0 (ea.cells) rfl rfl rfl rfl rfl (by assumption) rfl (Unfz.zero _) rfl (Nat.le_of_ble_eq_true rfl) rfl rfl ?_)
    refine prs ?_
    refine DWp.nil ?_
    exact ⟨(L6, ea), ⟨hBL6, oea, wea⟩, .cons rfl (.cons rfl (.cons rfl (.cons rfl (.cons rfl (.cons rfl (.nil _)))))), (.rfl)⟩
  ·refine ⟨_, [2, 3, 5], rfl, rfl, by decide +kernel, rfl, ?_⟩
   refine (Step.alloc rfl rfl rfl ?_); intro L6 hBL6 hLL6
   refine prs ?_
   refine DWp.step rfl rfl rfl (Step.call rfl rfl rfl rfl rfl rfl (squaredEqC (n := 1) rfl oel (by decide) ?_))
   intro s os ws
   refine prs ?_
   refine DWp.step rfl rfl rfl (Step.call rfl rfl rfl rfl rfl rfl (ftimesC onine os ?_))
   intro ea oea vv
   have wea := wnine.mul (wel.sq ws) vv
   refine prs ?_
   refine DWp.step rfl rfl rfl (Step.storeAs 0 (ea.cells) rfl rfl rfl rfl rfl (by assumption) rfl (Unfz.zero _) rfl (Nat.le_of_ble_eq_true rfl) rfl rfl ?_)
   refine prs ?_
   refine DWp.nil ?_
   exact ⟨(L6, ea), ⟨hBL6, oea, wea⟩, .cons rfl (.cons rfl (.cons rfl (.cons rfl (.cons rfl (.cons rfl (.nil _)))))), (.rfl)⟩
 rintro ⟨L6, ea⟩ ⟨hBL6, oea, wea⟩
 simp only at hBL6 oea wea ⊢
 refine Wp.seqS (α := Nat × El) (fun z => [(0, .pointer (some ⟨ba, oa, none⟩)), (2, .pointer (some ⟨L2, 0, none⟩)), (3, .pointer (some ⟨L3, 0, none⟩)), (4, .pointer (some ⟨L4, 0, none⟩)), (5, .pointer (some ⟨L5, 0, none⟩)), (6, .pointer (some ⟨L6, 0, none⟩)), (7, .pointer (some ⟨z.1, 0, none⟩))]) (fun z => (z.1, cel z.2.cells 239) :: (L6, cel ea.cells 239) :: (L5, cel el.cells 239) :: (L4, cel nine.cells 239) :: (L3, cel two.cells 239) :: (L2, cel El.zero.cells 239) :: S) (fun z => B ≤ z.1 ∧ z.2.ok ∧ Pw x.val z.2.val (1 + 1 * 2 ^ 1 * 2 ^ 2 + (1 + 1 * 2 ^ 1 * 2 ^ 2 + 1 * 2 ^ 1) * 2 ^ 1 + (1 + 1 * 2 ^ 1 * 2 ^ 2 + (1 + 1 * 2 ^ 1 * 2 ^ 2 + 1 * 2 ^ 1) * 2 ^ 1) * 2 ^ 5)) ?_ ?_
 ·skip
  refine Wp.regionDraw [0, 1, 6, 6, 6, 6] [2, 3, 4, 5] rfl (by decide +kernel) ?_
  refine DWp.load (.head _) rfl rfl rfl rfl rfl rfl (el_part ea) ?_
  refine DWp.load (.head _) rfl rfl rfl rfl rfl rfl (el_part ea) ?_
  refine DWp.forkTo [2, 4] (by decide +kernel) (by simp) ?_
  intro xx hxx
  simp only [List.mem_cons, List.mem_nil_iff, or_false] at hxx
  rcases hxx with rfl | rfl
  ·refine ⟨_, [6, 6, 6], rfl, rfl, by decide +kernel, rfl, ?_⟩
   refine (Step.call rfl rfl rfl rfl rfl rfl (squaredEqC (n := 5) rfl oea (by decide) ?_))
   intro s os ws
   refine prs ?_
   refine DWp.forkTo [3, 4] (by decide +kernel) (by simp) ?_
   intro xx hxx
   simp only [List.mem_cons, List.mem_nil_iff, or_false] at hxx
   rcases hxx with rfl | rfl
   ·refine ⟨_, [4, 5], rfl, rfl, by decide +kernel, rfl, ?_⟩
    refine (Step.call rfl rfl rfl rfl rfl rfl (ftimesC oea os ?_))
    intro eb oeb vv
    have web := wea.mul (wea.sq ws) vv
    refine prs ?_
    refine DWp.step rfl rfl rfl (Step.alloc rfl rfl rfl ?_); intro L7 hBL7 hLL7
    refine prs ?_
    refine DWp.step rfl rfl rfl (Step.storeAs 0 (eb.cells) rfl rfl rfl rfl rfl (by assumption) rfl (Unfz.zero _) rfl (Nat.le_of_ble_eq_true rfl) rfl rfl ?_)
    refine prs ?_
    refine DWp.nil ?_
    exact ⟨(L7, eb), ⟨hBL7, oeb, web⟩, .cons rfl (.cons rfl (.cons rfl (.cons rfl (.cons rfl (.cons rfl (.cons rfl (.nil _))))))), (.rfl)⟩
   ·refine ⟨_, [3, 5], rfl, rfl, by decide +kernel, rfl, ?_⟩
    refine (Step.alloc rfl rfl rfl ?_); intro L7 hBL7 hLL7
    refine prs ?_
    refine DWp.step rfl rfl rfl (Step.call rfl rfl rfl rfl rfl rfl (ftimesC oea os ?_))
    intro eb oeb vv
    have web := wea.mul (wea.sq ws) vv
    refine prs ?_
    refine DWp.step rfl rfl rfl (Step.storeAs 0 (eb.cells) rfl rfl rfl rfl rfl (by assumption) rfl (Unfz.zero _) rfl (Nat.le_of_ble_eq_true rfl) rfl rfl ?_)
    refine prs ?_
    refine DWp.nil ?_
    exact ⟨(L7, eb), ⟨hBL7, oeb, web⟩, .cons rfl (.cons rfl (.cons rfl (.cons rfl (.cons rfl (.cons rfl (.cons rfl (.nil _))))))), (.rfl)⟩
  ·refine ⟨_, [2, 3, 5], rfl, rfl, by decide +kernel, rfl, ?_⟩
   refine (Step.alloc rfl rfl rfl ?_); intro L7 hBL7 hLL7
   refine prs ?_
   refine DWp.step rfl rfl rfl (Step.call rfl rfl rfl rfl rfl rfl (squaredEqC (n := 5) rfl oea (by decide) ?_))
   intro s os ws
   refine prs ?_
   refine DWp.step rfl rfl rfl (Step.call rfl rfl rfl rfl rfl rfl (ftimesC oea os ?_))
   intro eb oeb vv
   have web := wea.mul (wea.sq ws) vv
   refine prs ?_
   refine DWp.step rfl rfl rfl (Step.storeAs 0 (eb.cells) rfl rfl rfl rfl rfl (by assumption) rfl (Unfz.zero _) rfl (Nat.le_of_ble_eq_true rfl) rfl rfl ?_)
   refine prs ?_
   refine DWp.nil ?_
   exact ⟨(L7, eb), ⟨hBL7, oeb, web⟩, .cons rfl (.cons rfl (.cons rfl (.cons rfl (.cons rfl (.cons rfl (.cons rfl (.nil _))))))), (.rfl)⟩
 rintro ⟨L7, eb⟩ ⟨hBL7, oeb, web⟩
 simp only at hBL7 oeb web ⊢
 refine Wp.seqS (α := Nat × El) (fun z => [(0, .pointer (some ⟨ba, oa, none⟩)), (2, .pointer (some ⟨L2, 0, none⟩)), (3, .pointer (some ⟨L3, 0, none⟩)), (4, .pointer (some ⟨L4, 0, none⟩)), (5, .pointer (some ⟨L5, 0, none⟩)), (6, .pointer (some ⟨L6, 0, none⟩)), (7, .pointer (some ⟨L7, 0, none⟩)), (8, .pointer (some ⟨z.1, 0, none⟩))]) (fun z => (z.1, cel z.2.cells 239) :: (L7, cel eb.cells 239) :: (L6, cel ea.cells 239) :: (L5, cel el.cells 239) :: (L4, cel nine.cells 239) :: (L3, cel two.cells 239) :: (L2, cel El.zero.cells 239) :: S) (fun z => B ≤ z.1 ∧ z.2.ok ∧ Pw x.val z.2.val (1 + 1 * 2 ^ 1 * 2 ^ 2 + (1 + 1 * 2 ^ 1 * 2 ^ 2 + 1 * 2 ^ 1) * 2 ^ 1 + (1 + 1 * 2 ^ 1 * 2 ^ 2 + (1 + 1 * 2 ^ 1 * 2 ^ 2 + 1 * 2 ^ 1) * 2 ^ 1) * 2 ^ 5 + (1 + 1 * 2 ^ 1 * 2 ^ 2 + (1 + 1 * 2 ^ 1 * 2 ^ 2 + 1 * 2 ^ 1) * 2 ^ 1 + (1 + 1 * 2 ^ 1 * 2 ^ 2 + (1 + 1 * 2 ^ 1 * 2 ^ 2 + 1 * 2 ^ 1) * 2 ^ 1) * 2 ^ 5) * 2 ^ 10)) ?_ ?_
 ·skip
  refine Wp.regionDraw [0, 1, 6, 6, 6, 6] [2, 3, 4, 5] rfl (by decide +kernel) ?_
  refine DWp.load (.head _) rfl rfl rfl rfl rfl rfl (el_part eb) ?_
  refine DWp.load (.head _) rfl rfl rfl rfl rfl rfl (el_part eb) ?_
  refine DWp.forkTo [2, 4] (by decide +kernel) (by simp) ?_
  intro xx hxx
  simp only [List.mem_cons, List.mem_nil_iff, or_false] at hxx
  rcases hxx with rfl | rfl
  ·refine ⟨_, [6, 6, 6], rfl, rfl, by decide +kernel, rfl, ?_⟩
   refine (Step.call rfl rfl rfl rfl rfl rfl (squaredEqC (n := 10) rfl oeb (by decide) ?_))
   intro s os ws
   refine prs ?_
   refine DWp.forkTo [3, 4] (by decide +kernel) (by simp) ?_
   intro xx hxx
   simp only [List.mem_cons, List.mem_nil_iff, or_false] at hxx
   rcases hxx with rfl | rfl
   ·refine ⟨_, [4, 5], rfl, rfl, by decide +kernel, rfl, ?_⟩
    refine (Step.call rfl rfl rfl rfl rfl rfl (ftimesC oeb os ?_))
    intro ec oec vv
    have wec := web.mul (web.sq ws) vv
    refine prs ?_
    refine DWp.step rfl rfl rfl (Step.alloc rfl rfl rfl ?_); intro L8 hBL8 hLL8
    refine prs ?_
    refine DWp.step rfl rfl rfl (Step.storeAs 0 (ec.cells) rfl rfl rfl rfl rfl (by assumption) rfl (Unfz.zero _) rfl (Nat.le_of_ble_eq_true rfl) rfl rfl ?_)
    refine prs ?_
    refine DWp.nil ?_
    exact ⟨(L8, ec), ⟨hBL8, oec, wec⟩, .cons rfl (.cons rfl (.cons rfl (.cons rfl (.cons rfl (.cons rfl (.cons rfl (.cons rfl (.nil _)))))))), (.rfl)⟩
   ·refine ⟨_, [3, 5], rfl, rfl, by decide +kernel, rfl, ?_⟩
    refine (Step.alloc rfl rfl rfl ?_); intro L8 hBL8 hLL8
    refine prs ?_
    refine DWp.step rfl rfl rfl (Step.call rfl rfl rfl rfl rfl rfl (ftimesC oeb os ?_))
    intro ec oec vv
    have wec := web.mul (web.sq ws) vv
    refine prs ?_
    refine DWp.step rfl rfl rfl (Step.storeAs 0 (ec.cells) rfl rfl rfl rfl rfl (by assumption) rfl (Unfz.zero _) rfl (Nat.le_of_ble_eq_true rfl) rfl rfl ?_)
    refine prs ?_
    refine DWp.nil ?_
    exact ⟨(L8, ec), ⟨hBL8, oec, wec⟩, .cons rfl (.cons rfl (.cons rfl (.cons rfl (.cons rfl (.cons rfl (.cons rfl (.cons rfl (.nil _)))))))), (.rfl)⟩
  ·refine ⟨_, [2, 3, 5], rfl, rfl, by decide +kernel, rfl, ?_⟩
   refine (Step.alloc rfl rfl rfl ?_); intro L8 hBL8 hLL8
   refine prs ?_
   refine DWp.step rfl rfl rfl (Step.call rfl rfl rfl rfl rfl rfl (squaredEqC (n := 10) rfl oeb (by decide) ?_))
   intro s os ws
   refine prs ?_
   refine DWp.step rfl rfl rfl (Step.call rfl rfl rfl rfl rfl rfl (ftimesC oeb os ?_))
   intro ec oec vv
   have wec := web.mul (web.sq ws) vv
   refine prs ?_
   refine DWp.step rfl rfl rfl (Step.storeAs 0 (ec.cells) rfl rfl rfl rfl rfl (by assumption) rfl (Unfz.zero _) rfl (Nat.le_of_ble_eq_true rfl) rfl rfl ?_)
   refine prs ?_
   refine DWp.nil ?_
   exact ⟨(L8, ec), ⟨hBL8, oec, wec⟩, .cons rfl (.cons rfl (.cons rfl (.cons rfl (.cons rfl (.cons rfl (.cons rfl (.cons rfl (.nil _)))))))), (.rfl)⟩
 rintro ⟨L8, ec⟩ ⟨hBL8, oec, wec⟩
 simp only at hBL8 oec wec ⊢
 refine Wp.seqS (α := Nat × El) (fun z => [(0, .pointer (some ⟨ba, oa, none⟩)), (2, .pointer (some ⟨L2, 0, none⟩)), (3, .pointer (some ⟨L3, 0, none⟩)), (4, .pointer (some ⟨L4, 0, none⟩)), (5, .pointer (some ⟨L5, 0, none⟩)), (6, .pointer (some ⟨L6, 0, none⟩)), (7, .pointer (some ⟨L7, 0, none⟩)), (8, .pointer (some ⟨L8, 0, none⟩)), (9, .pointer (some ⟨z.1, 0, none⟩))]) (fun z => (z.1, cel z.2.cells 239) :: (L8, cel ec.cells 239) :: (L7, cel eb.cells 239) :: (L6, cel ea.cells 239) :: (L5, cel el.cells 239) :: (L4, cel nine.cells 239) :: (L3, cel two.cells 239) :: (L2, cel El.zero.cells 239) :: S) (fun z => B ≤ z.1 ∧ z.2.ok ∧ Pw x.val z.2.val (1 + 1 * 2 ^ 1 * 2 ^ 2 + (1 + 1 * 2 ^ 1 * 2 ^ 2 + 1 * 2 ^ 1) * 2 ^ 1 + (1 + 1 * 2 ^ 1 * 2 ^ 2 + (1 + 1 * 2 ^ 1 * 2 ^ 2 + 1 * 2 ^ 1) * 2 ^ 1) * 2 ^ 5 + (1 + 1 * 2 ^ 1 * 2 ^ 2 + (1 + 1 * 2 ^ 1 * 2 ^ 2 + 1 * 2 ^ 1) * 2 ^ 1 + (1 + 1 * 2 ^ 1 * 2 ^ 2 + (1 + 1 * 2 ^ 1 * 2 ^ 2 + 1 * 2 ^ 1) * 2 ^ 1) * 2 ^ 5) * 2 ^ 10 + (1 + 1 * 2 ^ 1 * 2 ^ 2 + (1 + 1 * 2 ^ 1 * 2 ^ 2 + 1 * 2 ^ 1) * 2 ^ 1 + (1 + 1 * 2 ^ 1 * 2 ^ 2 + (1 + 1 * 2 ^ 1 * 2 ^ 2 + 1 * 2 ^ 1) * 2 ^ 1) * 2 ^ 5 + (1 + 1 * 2 ^ 1 * 2 ^ 2 + (1 + 1 * 2 ^ 1 * 2 ^ 2 + 1 * 2 ^ 1) * 2 ^ 1 + (1 + 1 * 2 ^ 1 * 2 ^ 2 + (1 + 1 * 2 ^ 1 * 2 ^ 2 + 1 * 2 ^ 1) * 2 ^ 1) * 2 ^ 5) * 2 ^ 10) * 2 ^ 20)) ?_ ?_
 ·skip
  refine Wp.regionDraw [0, 1, 6, 6, 6, 6] [2, 3, 4, 5] rfl (by decide +kernel) ?_
  refine DWp.load (.head _) rfl rfl rfl rfl rfl rfl (el_part ec) ?_
  refine DWp.load (.head _) rfl rfl rfl rfl rfl rfl (el_part ec) ?_
  refine DWp.forkTo [2, 4] (by decide +kernel) (by simp) ?_
  intro xx hxx
  simp only [List.mem_cons, List.mem_nil_iff, or_false] at hxx
  rcases hxx with rfl | rfl
  ·refine ⟨_, [6, 6, 6], rfl, rfl, by decide +kernel, rfl, ?_⟩
   refine (Step.call rfl rfl rfl rfl rfl rfl (squaredEqC (n := 20) rfl oec (by decide) ?_))
   intro s os ws
   refine prs ?_
   refine DWp.forkTo [3, 4] (by decide +kernel) (by simp) ?_
   intro xx hxx
   simp only [List.mem_cons, List.mem_nil_iff, or_false] at hxx
   rcases hxx with rfl | rfl
   ·refine ⟨_, [4, 5], rfl, rfl, by decide +kernel, rfl, ?_⟩
    refine (Step.call rfl rfl rfl rfl rfl rfl (ftimesC oec os ?_))
    intro ed oed vv
    have wed := wec.mul (wec.sq ws) vv
    refine prs ?_
    refine DWp.step rfl rfl rfl (Step.alloc rfl rfl rfl ?_); intro L9 hBL9 hLL9
    refine prs ?_
    refine DWp.step rfl rfl rfl (Step.storeAs 0 (ed.cells) rfl rfl rfl rfl rfl (by assumption) rfl (Unfz.zero _) rfl (Nat.le_of_ble_eq_true rfl) rfl rfl ?_)
    refine prs ?_
    refine DWp.nil ?_
    exact ⟨(L9, ed), ⟨hBL9, oed, wed⟩, .cons rfl (.cons rfl (.cons rfl (.cons rfl (.cons rfl (.cons rfl (.cons rfl (.cons rfl (.cons rfl (.nil _))))))))), (.rfl)⟩
   ·refine ⟨_, [3, 5], rfl, rfl, by decide +kernel, rfl, ?_⟩
    refine (Step.alloc rfl rfl rfl ?_); intro L9 hBL9 hLL9
    refine prs ?_
    refine DWp.step rfl rfl rfl (Step.call rfl rfl rfl rfl rfl rfl (ftimesC oec os ?_))
    intro ed oed vv
    have wed := wec.mul (wec.sq ws) vv
    refine prs ?_
    refine DWp.step rfl rfl rfl (Step.storeAs 0 (ed.cells) rfl rfl rfl rfl rfl (by assumption) rfl (Unfz.zero _) rfl (Nat.le_of_ble_eq_true rfl) rfl rfl ?_)
    refine prs ?_
    refine DWp.nil ?_
    exact ⟨(L9, ed), ⟨hBL9, oed, wed⟩, .cons rfl (.cons rfl (.cons rfl (.cons rfl (.cons rfl (.cons rfl (.cons rfl (.cons rfl (.cons rfl (.nil _))))))))), (.rfl)⟩
  ·refine ⟨_, [2, 3, 5], rfl, rfl, by decide +kernel, rfl, ?_⟩
   refine (Step.alloc rfl rfl rfl ?_); intro L9 hBL9 hLL9
   refine prs ?_
   refine DWp.step rfl rfl rfl (Step.call rfl rfl rfl rfl rfl rfl (squaredEqC (n := 20) rfl oec (by decide) ?_))
   intro s os ws
   refine prs ?_
   refine DWp.step rfl rfl rfl (Step.call rfl rfl rfl rfl rfl rfl (ftimesC oec os ?_))
   intro ed oed vv
   have wed := wec.mul (wec.sq ws) vv
   refine prs ?_
   refine DWp.step rfl rfl rfl (Step.storeAs 0 (ed.cells) rfl rfl rfl rfl rfl (by assumption) rfl (Unfz.zero _) rfl (Nat.le_of_ble_eq_true rfl) rfl rfl ?_)
   refine prs ?_
   refine DWp.nil ?_
   exact ⟨(L9, ed), ⟨hBL9, oed, wed⟩, .cons rfl (.cons rfl (.cons rfl (.cons rfl (.cons rfl (.cons rfl (.cons rfl (.cons rfl (.cons rfl (.nil _))))))))), (.rfl)⟩
 rintro ⟨L9, ed⟩ ⟨hBL9, oed, wed⟩
 simp only at hBL9 oed wed ⊢
 refine Wp.seqS (α := Nat × El) (fun z => [(0, .pointer (some ⟨ba, oa, none⟩)), (2, .pointer (some ⟨L2, 0, none⟩)), (3, .pointer (some ⟨L3, 0, none⟩)), (4, .pointer (some ⟨L4, 0, none⟩)), (5, .pointer (some ⟨L5, 0, none⟩)), (6, .pointer (some ⟨L6, 0, none⟩)), (7, .pointer (some ⟨L7, 0, none⟩)), (8, .pointer (some ⟨L8, 0, none⟩)), (9, .pointer (some ⟨L9, 0, none⟩)), (10, .pointer (some ⟨z.1, 0, none⟩))]) (fun z => (z.1, cel z.2.cells 239) :: (L9, cel ed.cells 239) :: (L8, cel ec.cells 239) :: (L7, cel eb.cells 239) :: (L6, cel ea.cells 239) :: (L5, cel el.cells 239) :: (L4, cel nine.cells 239) :: (L3, cel two.cells 239) :: (L2, cel El.zero.cells 239) :: S) (fun z => B ≤ z.1 ∧ z.2.ok ∧ Pw x.val z.2.val (1 + 1 * 2 ^ 1 * 2 ^ 2 + (1 + 1 * 2 ^ 1 * 2 ^ 2 + 1 * 2 ^ 1) * 2 ^ 1 + (1 + 1 * 2 ^ 1 * 2 ^ 2 + (1 + 1 * 2 ^ 1 * 2 ^ 2 + 1 * 2 ^ 1) * 2 ^ 1) * 2 ^ 5 + (1 + 1 * 2 ^ 1 * 2 ^ 2 + (1 + 1 * 2 ^ 1 * 2 ^ 2 + 1 * 2 ^ 1) * 2 ^ 1 + (1 + 1 * 2 ^ 1 * 2 ^ 2 + (1 + 1 * 2 ^ 1 * 2 ^ 2 + 1 * 2 ^ 1) * 2 ^ 1) * 2 ^ 5 + (1 + 1 * 2 ^ 1 * 2 ^ 2 + (1 + 1 * 2 ^ 1 * 2 ^ 2 + 1 * 2 ^ 1) * 2 ^ 1 + (1 + 1 * 2 ^ 1 * 2 ^ 2 + (1 + 1 * 2 ^ 1 * 2 ^ 2 + 1 * 2 ^ 1) * 2 ^ 1) * 2 ^ 5) * 2 ^ 10 + (1 + 1 * 2 ^ 1 * 2 ^ 2 + (1 + 1 * 2 ^ 1 * 2 ^ 2 + 1 * 2 ^ 1) * 2 ^ 1 + (1 + 1 * 2 ^ 1 * 2 ^ 2 + (1 + 1 * 2 ^ 1 * 2 ^ 2 + 1 * 2 ^ 1) * 2 ^ 1) * 2 ^ 5 + (1 + 1 * 2 ^ 1 * 2 ^ 2 + (1 + 1 * 2 ^ 1 * 2 ^ 2 + 1 * 2 ^ 1) * 2 ^ 1 + (1 + 1 * 2 ^ 1 * 2 ^ 2 + (1 + 1 * 2 ^ 1 * 2 ^ 2 + 1 * 2 ^ 1) * 2 ^ 1) * 2 ^ 5) * 2 ^ 10) * 2 ^ 20) * 2 ^ 10)) ?_ ?_
 ·skip
  refine Wp.regionDraw [0, 1, 6, 6, 6, 6] [2, 3, 4, 5] rfl (by decide +kernel) ?_
  refine DWp.load (.tail _ (.tail _ (.head _))) rfl rfl rfl rfl rfl rfl (el_part eb) ?_
  refine DWp.load (.head _) rfl rfl rfl rfl rfl rfl (el_part ed) ?_
  refine DWp.forkTo [2, 4] (by decide +kernel) (by simp) ?_
  intro xx hxx
  simp only [List.mem_cons, List.mem_nil_iff, or_false] at hxx
  rcases hxx with rfl | rfl
  ·refine ⟨_, [6, 6, 6], rfl, rfl, by decide +kernel, rfl, ?_⟩
   refine (Step.call rfl rfl rfl rfl rfl rfl (squaredEqC (n := 10) rfl oed (by decide) ?_))
   intro s os ws
   refine prs ?_
   refine DWp.forkTo [3, 4] (by decide +kernel) (by simp) ?_
   intro xx hxx
   simp only [List.mem_cons, List.mem_nil_iff, or_false] at hxx
   rcases hxx with rfl | rfl
   ·refine ⟨_, [4, 5], rfl, rfl, by decide +kernel, rfl, ?_⟩
    refine (Step.call rfl rfl rfl rfl rfl rfl (ftimesC oeb os ?_))
    intro ef oef vv
    have wef := web.mul (wed.sq ws) vv
    refine prs ?_
    refine DWp.step rfl rfl rfl (Step.alloc rfl rfl rfl ?_); intro L10 hBL10 hLL10
    refine prs ?_
    refine DWp.step rfl rfl rfl (Step.storeAs 0 (ef.cells) rfl rfl rfl rfl rfl (by assumption) rfl (Unfz.zero _) rfl (Nat.le_of_ble_eq_true rfl) rfl rfl ?_)
    refine prs ?_
    refine DWp.nil ?_
    exact ⟨(L10, ef), ⟨hBL10, oef, wef⟩, .cons rfl (.cons rfl (.cons rfl (.cons rfl (.cons rfl (.cons rfl (.cons rfl (.cons rfl (.cons rfl (.cons rfl (.nil _)))))))))), (.rfl)⟩
   ·refine ⟨_, [3, 5], rfl, rfl, by decide +kernel, rfl, ?_⟩
    refine (Step.alloc rfl rfl rfl ?_); intro L10 hBL10 hLL10
    refine prs ?_
    refine DWp.step rfl rfl rfl (Step.call rfl rfl rfl rfl rfl rfl (ftimesC oeb os ?_))
    intro ef oef vv
    have wef := web.mul (wed.sq ws) vv
    refine prs ?_
    refine DWp.step rfl rfl rfl (Step.storeAs 0 (ef.cells) rfl rfl rfl rfl rfl (by assumption) rfl (Unfz.zero _) rfl (Nat.le_of_ble_eq_true rfl) rfl rfl ?_)
    refine prs ?_
    refine DWp.nil ?_
    exact ⟨(L10, ef), ⟨hBL10, oef, wef⟩, .cons rfl (.cons rfl (.cons rfl (.cons rfl (.cons rfl (.cons rfl (.cons rfl (.cons rfl (.cons rfl (.cons rfl (.nil _)))))))))), (.rfl)⟩
  ·refine ⟨_, [2, 3, 5], rfl, rfl, by decide +kernel, rfl, ?_⟩
   refine (Step.alloc rfl rfl rfl ?_); intro L10 hBL10 hLL10
   refine prs ?_
   refine DWp.step rfl rfl rfl (Step.call rfl rfl rfl rfl rfl rfl (squaredEqC (n := 10) rfl oed (by decide) ?_))
   intro s os ws
   refine prs ?_
   refine DWp.step rfl rfl rfl (Step.call rfl rfl rfl rfl rfl rfl (ftimesC oeb os ?_))
   intro ef oef vv
   have wef := web.mul (wed.sq ws) vv
   refine prs ?_
   refine DWp.step rfl rfl rfl (Step.storeAs 0 (ef.cells) rfl rfl rfl rfl rfl (by assumption) rfl (Unfz.zero _) rfl (Nat.le_of_ble_eq_true rfl) rfl rfl ?_)
   refine prs ?_
   refine DWp.nil ?_
   exact ⟨(L10, ef), ⟨hBL10, oef, wef⟩, .cons rfl (.cons rfl (.cons rfl (.cons rfl (.cons rfl (.cons rfl (.cons rfl (.cons rfl (.cons rfl (.cons rfl (.nil _)))))))))), (.rfl)⟩
 rintro ⟨L10, ef⟩ ⟨hBL10, oef, wef⟩
 simp only at hBL10 oef wef ⊢
 refine Wp.seqS (α := Nat × El) (fun z => [(0, .pointer (some ⟨ba, oa, none⟩)), (2, .pointer (some ⟨L2, 0, none⟩)), (3, .pointer (some ⟨L3, 0, none⟩)), (4, .pointer (some ⟨L4, 0, none⟩)), (5, .pointer (some ⟨L5, 0, none⟩)), (6, .pointer (some ⟨L6, 0, none⟩)), (7, .pointer (some ⟨L7, 0, none⟩)), (8, .pointer (some ⟨L8, 0, none⟩)), (9, .pointer (some ⟨L9, 0, none⟩)), (10, .pointer (some ⟨L10, 0, none⟩)), (11, .pointer (some ⟨z.1, 0, none⟩))]) (fun z => (z.1, cel z.2.cells 239) :: (L10, cel ef.cells 239) :: (L9, cel ed.cells 239) :: (L8, cel ec.cells 239) :: (L7, cel eb.cells 239) :: (L6, cel ea.cells 239) :: (L5, cel el.cells 239) :: (L4, cel nine.cells 239) :: (L3, cel two.cells 239) :: (L2, cel El.zero.cells 239) :: S) (fun z => B ≤ z.1 ∧ z.2.ok ∧ Pw x.val z.2.val (1 + 1 * 2 ^ 1 * 2 ^ 2 + (1 + 1 * 2 ^ 1 * 2 ^ 2 + 1 * 2 ^ 1) * 2 ^ 1 + (1 + 1 * 2 ^ 1 * 2 ^ 2 + (1 + 1 * 2 ^ 1 * 2 ^ 2 + 1 * 2 ^ 1) * 2 ^ 1) * 2 ^ 5 + (1 + 1 * 2 ^ 1 * 2 ^ 2 + (1 + 1 * 2 ^ 1 * 2 ^ 2 + 1 * 2 ^ 1) * 2 ^ 1 + (1 + 1 * 2 ^ 1 * 2 ^ 2 + (1 + 1 * 2 ^ 1 * 2 ^ 2 + 1 * 2 ^ 1) * 2 ^ 1) * 2 ^ 5 + (1 + 1 * 2 ^ 1 * 2 ^ 2 + (1 + 1 * 2 ^ 1 * 2 ^ 2 + 1 * 2 ^ 1) * 2 ^ 1 + (1 + 1 * 2 ^ 1 * 2 ^ 2 + (1 + 1 * 2 ^ 1 * 2 ^ 2 + 1 * 2 ^ 1) * 2 ^ 1) * 2 ^ 5) * 2 ^ 10 + (1 + 1 * 2 ^ 1 * 2 ^ 2 + (1 + 1 * 2 ^ 1 * 2 ^ 2 + 1 * 2 ^ 1) * 2 ^ 1 + (1 + 1 * 2 ^ 1 * 2 ^ 2 + (1 + 1 * 2 ^ 1 * 2 ^ 2 + 1 * 2 ^ 1) * 2 ^ 1) * 2 ^ 5 + (1 + 1 * 2 ^ 1 * 2 ^ 2 + (1 + 1 * 2 ^ 1 * 2 ^ 2 + 1 * 2 ^ 1) * 2 ^ 1 + (1 + 1 * 2 ^ 1 * 2 ^ 2 + (1 + 1 * 2 ^ 1 * 2 ^ 2 + 1 * 2 ^ 1) * 2 ^ 1) * 2 ^ 5) * 2 ^ 10) * 2 ^ 20) * 2 ^ 10 + (1 + 1 * 2 ^ 1 * 2 ^ 2 + (1 + 1 * 2 ^ 1 * 2 ^ 2 + 1 * 2 ^ 1) * 2 ^ 1 + (1 + 1 * 2 ^ 1 * 2 ^ 2 + (1 + 1 * 2 ^ 1 * 2 ^ 2 + 1 * 2 ^ 1) * 2 ^ 1) * 2 ^ 5 + (1 + 1 * 2 ^ 1 * 2 ^ 2 + (1 + 1 * 2 ^ 1 * 2 ^ 2 + 1 * 2 ^ 1) * 2 ^ 1 + (1 + 1 * 2 ^ 1 * 2 ^ 2 + (1 + 1 * 2 ^ 1 * 2 ^ 2 + 1 * 2 ^ 1) * 2 ^ 1) * 2 ^ 5 + (1 + 1 * 2 ^ 1 * 2 ^ 2 + (1 + 1 * 2 ^ 1 * 2 ^ 2 + 1 * 2 ^ 1) * 2 ^ 1 + (1 + 1 * 2 ^ 1 * 2 ^ 2 + (1 + 1 * 2 ^ 1 * 2 ^ 2 + 1 * 2 ^ 1) * 2 ^ 1) * 2 ^ 5) * 2 ^ 10 + (1 + 1 * 2 ^ 1 * 2 ^ 2 + (1 + 1 * 2 ^ 1 * 2 ^ 2 + 1 * 2 ^ 1) * 2 ^ 1 + (1 + 1 * 2 ^ 1 * 2 ^ 2 + (1 + 1 * 2 ^ 1 * 2 ^ 2 + 1 * 2 ^ 1) * 2 ^ 1) * 2 ^ 5 + (1 + 1 * 2 ^ 1 * 2 ^ 2 + (1 + 1 * 2 ^ 1 * 2 ^ 2 + 1 * 2 ^ 1) * 2 ^ 1 + (1 + 1 * 2 ^ 1 * 2 ^ 2 + (1 + 1 * 2 ^ 1 * 2 ^ 2 + 1 * 2 ^ 1) * 2 ^ 1) * 2 ^ 5) * 2 ^ 10) * 2 ^ 20) * 2 ^ 10) * 2 ^ 50)) ?_ ?_
 ·skip
  refine Wp.regionDraw [0, 1, 6, 6, 6, 6] [2, 3, 4, 5] rfl (by decide +kernel) ?_
  refine DWp.load (.head _) rfl rfl rfl rfl rfl rfl (el_part ef) ?_
  refine DWp.load (.head _) rfl rfl rfl rfl rfl rfl (el_part ef) ?_
  refine DWp.forkTo [2, 4] (by decide +kernel) (by simp) ?_
  intro xx hxx
  simp only [List.mem_cons, List.mem_nil_iff, or_false] at hxx
  rcases hxx with rfl | rfl
  ·refine ⟨_, [6, 6, 6], rfl, rfl, by decide +kernel, rfl, ?_⟩
   refine (Step.call rfl rfl rfl rfl rfl rfl (squaredEqC (n := 50) rfl oef (by decide) ?_))
   intro s os ws
   refine prs ?_
   refine DWp.forkTo [3, 4] (by decide +kernel) (by simp) ?_
   intro xx hxx
   simp only [List.mem_cons, List.mem_nil_iff, or_false] at hxx
   rcases hxx with rfl | rfl
   ·refine ⟨_, [4, 5], rfl, rfl, by decide +kernel, rfl, ?_⟩
    refine (Step.call rfl rfl rfl rfl rfl rfl (ftimesC oef os ?_))
    intro eg oeg vv
    have weg := wef.mul (wef.sq ws) vv
    refine prs ?_
    refine DWp.step rfl rfl rfl (Step.alloc rfl rfl rfl ?_); intro L11 hBL11 hLL11
    refine prs ?_
    refine DWp.step rfl rfl rfl (Step.storeAs 0 (eg.cells) rfl rfl rfl rfl rfl (by assumption) rfl (Unfz.zero _) rfl (Nat.le_of_ble_eq_true rfl) rfl rfl ?_)
    refine prs ?_
    refine DWp.nil ?_
    exact ⟨(L11, eg), ⟨hBL11, oeg, weg⟩, .cons rfl (.cons rfl (.cons rfl (.cons rfl (.cons rfl (.cons rfl (.cons rfl (.cons rfl (.cons rfl (.cons rfl (.cons rfl (.nil _))))))))))), (.rfl)⟩
   ·refine ⟨_, [3, 5], rfl, rfl, by decide +kernel, rfl, ?_⟩
    refine (Step.alloc rfl rfl rfl ?_); intro L11 hBL11 hLL11
    refine prs ?_
    refine DWp.step rfl rfl rfl (Step.call rfl rfl rfl rfl rfl rfl (ftimesC oef os ?_))
    intro eg oeg vv
    have weg := wef.mul (wef.sq ws) vv
    refine prs ?_
    refine DWp.step rfl rfl rfl (Step.storeAs 0 (eg.cells) rfl rfl rfl rfl rfl (by assumption) rfl (Unfz.zero _) rfl (Nat.le_of_ble_eq_true rfl) rfl rfl ?_)
    refine prs ?_
    refine DWp.nil ?_
    exact ⟨(L11, eg), ⟨hBL11, oeg, weg⟩, .cons rfl (.cons rfl (.cons rfl (.cons rfl (.cons rfl (.cons rfl (.cons rfl (.cons rfl (.cons rfl (.cons rfl (.cons rfl (.nil _))))))))))), (.rfl)⟩
  ·refine ⟨_, [2, 3, 5], rfl, rfl, by decide +kernel, rfl, ?_⟩
   refine (Step.alloc rfl rfl rfl ?_); intro L11 hBL11 hLL11
   refine prs ?_
   refine DWp.step rfl rfl rfl (Step.call rfl rfl rfl rfl rfl rfl (squaredEqC (n := 50) rfl oef (by decide) ?_))
   intro s os ws
   refine prs ?_
   refine DWp.step rfl rfl rfl (Step.call rfl rfl rfl rfl rfl rfl (ftimesC oef os ?_))
   intro eg oeg vv
   have weg := wef.mul (wef.sq ws) vv
   refine prs ?_
   refine DWp.step rfl rfl rfl (Step.storeAs 0 (eg.cells) rfl rfl rfl rfl rfl (by assumption) rfl (Unfz.zero _) rfl (Nat.le_of_ble_eq_true rfl) rfl rfl ?_)
   refine prs ?_
   refine DWp.nil ?_
   exact ⟨(L11, eg), ⟨hBL11, oeg, weg⟩, .cons rfl (.cons rfl (.cons rfl (.cons rfl (.cons rfl (.cons rfl (.cons rfl (.cons rfl (.cons rfl (.cons rfl (.cons rfl (.nil _))))))))))), (.rfl)⟩
 rintro ⟨L11, eg⟩ ⟨hBL11, oeg, weg⟩
 simp only at hBL11 oeg weg ⊢
 refine Wp.seqS (α := Nat × El) (fun z => [(0, .pointer (some ⟨ba, oa, none⟩)), (2, .pointer (some ⟨L2, 0, none⟩)), (3, .pointer (some ⟨L3, 0, none⟩)), (4, .pointer (some ⟨L4, 0, none⟩)), (5, .pointer (some ⟨L5, 0, none⟩)), (6, .pointer (some ⟨L6, 0, none⟩)), (7, .pointer (some ⟨L7, 0, none⟩)), (8, .pointer (some ⟨L8, 0, none⟩)), (9, .pointer (some ⟨L9, 0, none⟩)), (10, .pointer (some ⟨L10, 0, none⟩)), (11, .pointer (some ⟨L11, 0, none⟩)), (12, .pointer (some ⟨z.1, 0, none⟩))]) (fun z => (z.1, cel z.2.cells 239) :: (L11, cel eg.cells 239) :: (L10, cel ef.cells 239) :: (L9, cel ed.cells 239) :: (L8, cel ec.cells 239) :: (L7, cel eb.cells 239) :: (L6, cel ea.cells 239) :: (L5, cel el.cells 239) :: (L4, cel nine.cells 239) :: (L3, cel two.cells 239) :: (L2, cel El.zero.cells 239) :: S) (fun z => B ≤ z.1 ∧ z.2.ok ∧ Pw x.val z.2.val (1 + 1 * 2 ^ 1 * 2 ^ 2 + (1 + 1 * 2 ^ 1 * 2 ^ 2 + 1 * 2 ^ 1) * 2 ^ 1 + (1 + 1 * 2 ^ 1 * 2 ^ 2 + (1 + 1 * 2 ^ 1 * 2 ^ 2 + 1 * 2 ^ 1) * 2 ^ 1) * 2 ^ 5 + (1 + 1 * 2 ^ 1 * 2 ^ 2 + (1 + 1 * 2 ^ 1 * 2 ^ 2 + 1 * 2 ^ 1) * 2 ^ 1 + (1 + 1 * 2 ^ 1 * 2 ^ 2 + (1 + 1 * 2 ^ 1 * 2 ^ 2 + 1 * 2 ^ 1) * 2 ^ 1) * 2 ^ 5 + (1 + 1 * 2 ^ 1 * 2 ^ 2 + (1 + 1 * 2 ^ 1 * 2 ^ 2 + 1 * 2 ^ 1) * 2 ^ 1 + (1 + 1 * 2 ^ 1 * 2 ^ 2 + (1 + 1 * 2 ^ 1 * 2 ^ 2 + 1 * 2 ^ 1) * 2 ^ 1) * 2 ^ 5) * 2 ^ 10 + (1 + 1 * 2 ^ 1 * 2 ^ 2 + (1 + 1 * 2 ^ 1 * 2 ^ 2 + 1 * 2 ^ 1) * 2 ^ 1 + (1 + 1 * 2 ^ 1 * 2 ^ 2 + (1 + 1 * 2 ^ 1 * 2 ^ 2 + 1 * 2 ^ 1) * 2 ^ 1) * 2 ^ 5 + (1 + 1 * 2 ^ 1 * 2 ^ 2 + (1 + 1 * 2 ^ 1 * 2 ^ 2 + 1 * 2 ^ 1) * 2 ^ 1 + (1 + 1 * 2 ^ 1 * 2 ^ 2 + (1 + 1 * 2 ^ 1 * 2 ^ 2 + 1 * 2 ^ 1) * 2 ^ 1) * 2 ^ 5) * 2 ^ 10) * 2 ^ 20) * 2 ^ 10 + (1 + 1 * 2 ^ 1 * 2 ^ 2 + (1 + 1 * 2 ^ 1 * 2 ^ 2 + 1 * 2 ^ 1) * 2 ^ 1 + (1 + 1 * 2 ^ 1 * 2 ^ 2 + (1 + 1 * 2 ^ 1 * 2 ^ 2 + 1 * 2 ^ 1) * 2 ^ 1) * 2 ^ 5 + (1 + 1 * 2 ^ 1 * 2 ^ 2 + (1 + 1 * 2 ^ 1 * 2 ^ 2 + 1 * 2 ^ 1) * 2 ^ 1 + (1 + 1 * 2 ^ 1 * 2 ^ 2 + (1 + 1 * 2 ^ 1 * 2 ^ 2 + 1 * 2 ^ 1) * 2 ^ 1) * 2 ^ 5 + (1 + 1 * 2 ^ 1 * 2 ^ 2 + (1 + 1 * 2 ^ 1 * 2 ^ 2 + 1 * 2 ^ 1) * 2 ^ 1 + (1 + 1 * 2 ^ 1 * 2 ^ 2 + (1 + 1 * 2 ^ 1 * 2 ^ 2 + 1 * 2 ^ 1) * 2 ^ 1) * 2 ^ 5) * 2 ^ 10 + (1 + 1 * 2 ^ 1 * 2 ^ 2 + (1 + 1 * 2 ^ 1 * 2 ^ 2 + 1 * 2 ^ 1) * 2 ^ 1 + (1 + 1 * 2 ^ 1 * 2 ^ 2 + (1 + 1 * 2 ^ 1 * 2 ^ 2 + 1 * 2 ^ 1) * 2 ^ 1) * 2 ^ 5 + (1 + 1 * 2 ^ 1 * 2 ^ 2 + (1 + 1 * 2 ^ 1 * 2 ^ 2 + 1 * 2 ^ 1) * 2 ^ 1 + (1 + 1 * 2 ^ 1 * 2 ^ 2 + (1 + 1 * 2 ^ 1 * 2 ^ 2 + 1 * 2 ^ 1) * 2 ^ 1) * 2 ^ 5) * 2 ^ 10) * 2 ^ 20) * 2 ^ 10) * 2 ^ 50 + (1 + 1 * 2 ^ 1 * 2 ^ 2 + (1 + 1 * 2 ^ 1 * 2 ^ 2 + 1 * 2 ^ 1) * 2 ^ 1 + (1 + 1 * 2 ^ 1 * 2 ^ 2 + (1 + 1 * 2 ^ 1 * 2 ^ 2 + 1 * 2 ^ 1) * 2 ^ 1) * 2 ^ 5 + (1 + 1 * 2 ^ 1 * 2 ^ 2 + (1 + 1 * 2 ^ 1 * 2 ^ 2 + 1 * 2 ^ 1) * 2 ^ 1 + (1 + 1 * 2 ^ 1 * 2 ^ 2 + (1 + 1 * 2 ^ 1 * 2 ^ 2 + 1 * 2 ^ 1) * 2 ^ 1) * 2 ^ 5 + (1 + 1 * 2 ^ 1 * 2 ^ 2 + (1 + 1 * 2 ^ 1 * 2 ^ 2 + 1 * 2 ^ 1) * 2 ^ 1 + (1 + 1 * 2 ^ 1 * 2 ^ 2 + (1 + 1 * 2 ^ 1 * 2 ^ 2 + 1 * 2 ^ 1) * 2 ^ 1) * 2 ^ 5) * 2 ^ 10 + (1 + 1 * 2 ^ 1 * 2 ^ 2 + (1 + 1 * 2 ^ 1 * 2 ^ 2 + 1 * 2 ^ 1) * 2 ^ 1 + (1 + 1 * 2 ^ 1 * 2 ^ 2 + (1 + 1 * 2 ^ 1 * 2 ^ 2 + 1 * 2 ^ 1) * 2 ^ 1) * 2 ^ 5 + (1 + 1 * 2 ^ 1 * 2 ^ 2 + (1 + 1 * 2 ^ 1 * 2 ^ 2 + 1 * 2 ^ 1) * 2 ^ 1 + (1 + 1 * 2 ^ 1 * 2 ^ 2 + (1 + 1 * 2 ^ 1 * 2 ^ 2 + 1 * 2 ^ 1) * 2 ^ 1) * 2 ^ 5) * 2 ^ 10) * 2 ^ 20) * 2 ^ 10 + (1 + 1 * 2 ^ 1 * 2 ^ 2 + (1 + 1 * 2 ^ 1 * 2 ^ 2 + 1 * 2 ^ 1) * 2 ^ 1 + (1 + 1 * 2 ^ 1 * 2 ^ 2 + (1 + 1 * 2 ^ 1 * 2 ^ 2 + 1 * 2 ^ 1) * 2 ^ 1) * 2 ^ 5 + (1 + 1 * 2 ^ 1 * 2 ^ 2 + (1 + 1 * 2 ^ 1 * 2 ^ 2 + 1 * 2 ^ 1) * 2 ^ 1 + (1 + 1 * 2 ^ 1 * 2 ^ 2 + (1 + 1 * 2 ^ 1 * 2 ^ 2 + 1 * 2 ^ 1) * 2 ^ 1) * 2 ^ 5 + (1 + 1 * 2 ^ 1 * 2 ^ 2 + (1 + 1 * 2 ^ 1 * 2 ^ 2 + 1 * 2 ^ 1) * 2 ^ 1 + (1 + 1 * 2 ^ 1 * 2 ^ 2 + (1 + 1 * 2 ^ 1 * 2 ^ 2 + 1 * 2 ^ 1) * 2 ^ 1) * 2 ^ 5) * 2 ^ 10 + (1 + 1 * 2 ^ 1 * 2 ^ 2 + (1 + 1 * 2 ^ 1 * 2 ^ 2 + 1 * 2 ^ 1) * 2 ^ 1 + (1 + 1 * 2 ^ 1 * 2 ^ 2 + (1 + 1 * 2 ^ 1 * 2 ^ 2 + 1 * 2 ^ 1) * 2 ^ 1) * 2 ^ 5 + (1 + 1 * 2 ^ 1 * 2 ^ 2 + (1 + 1 * 2 ^ 1 * 2 ^ 2 + 1 * 2 ^ 1) * 2 ^ 1 + (1 + 1 * 2 ^ 1 * 2 ^ 2 + (1 + 1 * 2 ^ 1 * 2 ^ 2 + 1 * 2 ^ 1) * 2 ^ 1) * 2 ^ 5) * 2 ^ 10) * 2 ^ 20) * 2 ^ 10) * 2 ^ 50) * 2 ^ 100)) ?_ ?_
 ·skip
  refine Wp.regionDraw [0, 1, 6, 6, 6, 6] [2, 3, 4, 5] rfl (by decide +kernel) ?_
  refine DWp.load (.head _) rfl rfl rfl rfl rfl rfl (el_part eg) ?_
  refine DWp.load (.head _) rfl rfl rfl rfl rfl rfl (el_part eg) ?_
  refine DWp.forkTo [2, 4] (by decide +kernel) (by simp) ?_
  intro xx hxx
  simp only [List.mem_cons, List.mem_nil_iff, or_false] at hxx
  rcases hxx with rfl | rfl
  ·refine ⟨_, [6, 6, 6], rfl, rfl, by decide +kernel, rfl, ?_⟩
   refine (Step.call rfl rfl rfl rfl rfl rfl (squaredEqC (n := 100) rfl oeg (by decide) ?_))
   intro s os ws
   refine prs ?_
   refine DWp.forkTo [3, 4] (by decide +kernel) (by simp) ?_
   intro xx hxx
   simp only [List.mem_cons, List.mem_nil_iff, or_false] at hxx
   rcases hxx with rfl | rfl
   ·refine ⟨_, [4, 5], rfl, rfl, by decide +kernel, rfl, ?_⟩
    refine (Step.call rfl rfl rfl rfl rfl rfl (ftimesC oeg os ?_))
    intro eh oeh vv
    have weh := weg.mul (weg.sq ws) vv
    refine prs ?_
    refine DWp.step rfl rfl rfl (Step.alloc rfl rfl rfl ?_); intro L12 hBL12 hLL12
    refine prs ?_
    refine DWp.step rfl rfl rfl (Step.storeAs 0 (eh.cells) rfl rfl rfl rfl rfl (by assumption) rfl (Unfz.zero _) rfl (Nat.le_of_ble_eq_true rfl) rfl rfl ?_)
    refine prs ?_
    refine DWp.nil ?_
    exact ⟨(L12, eh), ⟨hBL12, oeh, weh⟩, .cons rfl (.cons rfl (.cons rfl (.cons rfl (.cons rfl (.cons rfl (.cons rfl (.cons rfl (.cons rfl (.cons rfl (.cons rfl (.cons rfl (.nil _)))))))))))), (.rfl)⟩
   ·refine ⟨_, [3, 5], rfl, rfl, by decide +kernel, rfl, ?_⟩
    refine (Step.alloc rfl rfl rfl ?_); intro L12 hBL12 hLL12
    refine prs ?_
    refine DWp.step rfl rfl rfl (Step.call rfl rfl rfl rfl rfl rfl (ftimesC oeg os ?_))
    intro eh oeh vv
    have weh := weg.mul (weg.sq ws) vv
    refine prs ?_
    refine DWp.step rfl rfl rfl (Step.storeAs 0 (eh.cells) rfl rfl rfl rfl rfl (by assumption) rfl (Unfz.zero _) rfl (Nat.le_of_ble_eq_true rfl) rfl rfl ?_)
    refine prs ?_
    refine DWp.nil ?_
    exact ⟨(L12, eh), ⟨hBL12, oeh, weh⟩, .cons rfl (.cons rfl (.cons rfl (.cons rfl (.cons rfl (.cons rfl (.cons rfl (.cons rfl (.cons rfl (.cons rfl (.cons rfl (.cons rfl (.nil _)))))))))))), (.rfl)⟩
  ·refine ⟨_, [2, 3, 5], rfl, rfl, by decide +kernel, rfl, ?_⟩
   refine (Step.alloc rfl rfl rfl ?_); intro L12 hBL12 hLL12
   refine prs ?_
   refine DWp.step rfl rfl rfl (Step.call rfl rfl rfl rfl rfl rfl (squaredEqC (n := 100) rfl oeg (by decide) ?_))
   intro s os ws
   refine prs ?_
   refine DWp.step rfl rfl rfl (Step.call rfl rfl rfl rfl rfl rfl (ftimesC oeg os ?_))
   intro eh oeh vv
   have weh := weg.mul (weg.sq ws) vv
   refine prs ?_
   refine DWp.step rfl rfl rfl (Step.storeAs 0 (eh.cells) rfl rfl rfl rfl rfl (by assumption) rfl (Unfz.zero _) rfl (Nat.le_of_ble_eq_true rfl) rfl rfl ?_)
   refine prs ?_
   refine DWp.nil ?_
   exact ⟨(L12, eh), ⟨hBL12, oeh, weh⟩, .cons rfl (.cons rfl (.cons rfl (.cons rfl (.cons rfl (.cons rfl (.cons rfl (.cons rfl (.cons rfl (.cons rfl (.cons rfl (.cons rfl (.nil _)))))))))))), (.rfl)⟩
 rintro ⟨L12, eh⟩ ⟨hBL12, oeh, weh⟩
 simp only at hBL12 oeh weh ⊢
 refine Wp.seq (Wp.regionDraw [0, 1, 2, 3, 4, 5, 6, 7] [3, 4, 5, 6, 7] rfl (by decide +kernel) ?_)
 refine DWp.load (.tail _ (.tail _ (.tail _ (.tail _ (.tail _ (.tail _ (.tail _ (.head _)))))))) rfl rfl rfl rfl rfl rfl (el_part el) ?_
 refine DWp.load (.tail _ (.tail _ (.head _))) rfl rfl rfl rfl rfl rfl (el_part ef) ?_
 refine DWp.load (.head _) rfl rfl rfl rfl rfl rfl (el_part eh) ?_
 refine DWp.step rfl rfl rfl (Step.call rfl rfl rfl rfl rfl rfl ((squaredEqC (n := 50) rfl oeh (by decide) ?_)))
 intro s os ws
 refine prs ?_
 refine DWp.step rfl rfl rfl (Step.call rfl rfl rfl rfl rfl rfl ((ftimesC oef os ?_)))
 intro u ou vu
 have wu := wef.mul (weh.sq ws) vu
 refine prs ?_
 refine DWp.step rfl rfl rfl (Step.call rfl rfl rfl rfl rfl rfl ((squaredEqC (n := 5) rfl ou (by decide) ?_)))
 intro s' os' ws'
 refine prs ?_
 refine DWp.step rfl rfl rfl (Step.call rfl rfl rfl rfl rfl rfl ((ftimesC oel os' ?_)))
 intro z oz vz
 have wz := wel.mul (wu.sq ws') vz
 refine prs ?_
 refine DWp.step rfl rfl rfl (Step.storeAs 10 (z.cells) rfl rfl rfl rfl rfl (by assumption) rfl (Unfz.zero _) rfl (Nat.le_of_ble_eq_true rfl) rfl rfl ?_)
 refine prs ?_
 refine DWp.nil ?_
 refine Wp.ret ⟨trivial, _, ⟨_, _, _, _, rfl, rfl, ⟨_, _, _, mems, (by first | assumption | rfl)⟩, rfl⟩, ?_⟩
 exact ⟨S, subl, H z oz (wz.inv (by decide))⟩
end
end Go.Proofs.D
