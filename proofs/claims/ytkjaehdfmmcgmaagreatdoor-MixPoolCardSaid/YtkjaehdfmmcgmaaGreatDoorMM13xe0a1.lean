/- What functions of the given program do, one after the other, told by that layer. -/
import Derived.Test.YtkjaehdfmmcgmaaGreatDoorMM12xb720
import Derived.Test.YtkjaehdfmmcgmaaGreatDoorMHdP
import Derived.Test.YtkjaehdfmmcgmaaGreatDoorEMixT
import Derived.Test.YtkjaehdfmmcgmaaGreatDoorMHead
import Derived.Test.YtkjaehdfmmcgmaaGreatDoorRows
import Derived.LaidMore
import Derived.LaidHandle
import Derived.Lib.LaidTab
import Derived.Stop.LaidErr
import Derived.MakeChecks
import Derived.Test.YtkjaehdfmmcgmaaGreatDoorLgM2x52c3
/- The laws of the mixes' chapter: their packets. -/
namespace Go.Proofs.D
open Go.Lg Go.Sha Go.Hd Go.Cv Go.Mx
open Go.Proofs.C (Hop hopP pathE)
set_option maxRecDepth 100000
def pathM (w : Nat) : List Hop := [⟨1, 7, 0, (w : Int), []⟩, ⟨4, 0, 0, 0, []⟩]
def textM : List UInt8 := [116, 101, 120, 116]
def privsM : List (List UInt8) := [privM 0, privM 1]
def madeP (n w : Nat) : List UInt8 := hdP (seedM n) privsM (pathM w) 0 ++ bdP (seedM n) privsM textM 0
theorem pathM_ok {w : Nat} (h : w ≤ 4096) : pathE (pathM w) = 0 := by
 rw [C.pathE_good, if_pos]
 ·exact ⟨⟨rfl, show (4 : Int) ≠ 1 by decide⟩, (show (2 : Nat) ≤ 5 by decide)⟩
 ·intro x hx
  rcases List.mem_cons.1 hx with rfl | hx
  ·exact .inl ⟨rfl, (show (0 : Int) ≤ 7 by decide), (show (7 : Int) ≤ 31 by decide), Int.natCast_nonneg _, (show (w : Int) ≤ 4096 by omega), rfl, rfl⟩
  ·rw [List.mem_singleton.1 hx]
   exact .inr (.inr (.inr ⟨rfl, rfl, rfl, rfl, rfl⟩))
theorem privsM_len : ∀ p ∈ privsM, p.length = 32 := by
 intro p hp
 rcases List.mem_cons.1 hp with rfl | hp
 ·exact privM_len 0
 ·rw [List.mem_singleton.1 hp]; exact privM_len 1
theorem madeP_is {n w : Nat} (h : w ≤ 4096) : packR (seedM n) (pubL privsM) textM (pathM w) = (madeP n w, 0) := packP_is (seedM_len n) (pathM_ok h) rfl (by decide)
theorem made_peel {n w : Nat} (h : w ≤ 4096) : ∃ nxt : List UInt8, nxt.length = 504 ∧ pkPeelR (privM 0) (madeP n w) = (onP w nxt (tagM n), 0) := by
 refine ⟨hdP (seedM n) privsM (pathM w) 1 ++ bdP (seedM n) privsM textM 1, ?_, ?_⟩
 ·rw [List.length_append, hdP_len (pathM_ok h) rfl (show 1 < (pathM w).length by show 1 < 2; decide), bdP_len (by decide)]
 ·exact pkP_on (i := 0) (pathM_ok h) rfl privsM_len (by decide) (show 0 + 1 < (pathM w).length by show 1 < 2; decide)
theorem twoReads {L : Nat} {S : Ents} {n : Nat} (hm : (L, cel [.int .u8 (IntKind.u8.wrap (n : Int)), .int .u8 (IntKind.u8.wrap ((n : Int).fdiv (2 ^ (min 8 IntKind.i64.bits))))] 5) ∈ S) : Reads S 1 (.slice (some ⟨L, 0, none⟩) 2 2) 2 (byteCells [UInt8.ofNat n, UInt8.ofNat (n / 256)]) := by
 rw [u8c (n : Int) n rfl, show min 8 IntKind.i64.bits = 8 from rfl, u8shr n 256 8 (by decide)] at hm
 exact Reads.row (k := 2) (sz := 1) (l := byteCells [UInt8.ofNat n, UInt8.ofNat (n / 256)]) hm (Nat.le_refl 2)
theorem oneReads {S : Ents} {L : Nat} {b : UInt8} {v : Int} (h : v = (b.toNat : Int)) : Reads ((L, cel [.int .u8 v] 5) :: S) 1 (.slice (some ⟨L, 0, none⟩) 1 1) 1 (byteCells [b]) := by
 subst h
 exact Reads.row (k := 1) (sz := 1) (l := byteCells [b]) (.head _) (Nat.le_refl 1)
attribute [local irreducible] derive hmac publicR hdP bdP keysP pkPeelR packR
section
variable {B : Nat} {S R : Ents} {Q : Value → Ents → Prop}
theorem private19C {i : Nat} (hks : KsIn S) (hi : i < 100) (H : Q (.string (str (privM i))) S) : CallWp Tryz.prog B 13 #[.int .i64 (i : Int)] Q S := by
 refine CallWp.dropRet ?_
 refine Yx (args := [_]) Tryz.func13 Tryz.ntmps13 ?_
 refine Yn 1 rfl ?_
 refine Yg 3 rfl ?_
 refine OWp.step rfl (Step.buildSlice rfl rfl rfl ?_); intro L hBL hLL
 refine OWp.gives rfl rfl (Gives.bytesToStr (l := [UInt8.ofNat (48 + i)]) (k := 1) rfl rfl rfl rfl rfl (oneReads (by rw [i64_id (by omega) (by omega)]; exact u8c _ _ (by omega)))) (fun _ h => h) ?_
 refine OWp.g rfl rfl (Gives.addStr rfl rfl rfl (by simp only [List.length_cons, List.length_nil]; omega)) ?_
 refine Yc rfl rfl (deriveC (secret := [104, 111, 112, 115]) (label := [112, 114, 105, 118, 97, 116, 101, UInt8.ofNat (48 + i)]) hks.cons (by decide) (by decide) (by simp [big]) ?_)
 refine Yz 5 rfl ?_
 refine Yn 2 rfl ?_
 refine Wp.ret ⟨trivial, _, ⟨_, _, rfl, rfl, rfl⟩, ?_⟩
 exact ⟨S, subl, H⟩
theorem public19C {i : Nat} (hks : KsIn S) (hi : i < 100) (H : Q (.string (str (x25519 (privM i) base9))) S) : CallWp Tryz.prog B 27 #[.int .i64 (i : Int)] Q S := by
 refine Yx (args := [_]) Tryz.func27 Tryz.ntmps27 ?_
 refine Yn 1 rfl ?_
 refine Yg 1 rfl ?_
 refine Yc rfl rfl (private19C hks hi ?_)
 refine Yc rfl rfl (publicC ?_)
 rw [publicR_eq (privM_len i)]
 refine Yz 5 rfl ?_
 refine Yn 2 rfl ?_
 refine Wp.ret ⟨trivial, _, ⟨_, _, rfl, rfl, rfl⟩, ?_⟩
 exact H
theorem made19C {n w : Nat} (hks : KsIn S) (_hn : n ≤ 1000) (hw : w ≤ 4096) (H : Q (.string (str (madeP n w))) S) : CallWp Tryz.prog B 15 #[.int .i64 (n : Int), .int .i64 (w : Int)] Q S := by
 refine CallWp.dropRet ?_
 refine Yx (args := [_, _]) Tryz.func15 Tryz.ntmps15 ?_
 refine Yn 1 rfl ?_
 refine Yg 5 rfl ?_
 refine OWp.step rfl (Step.buildSlice rfl rfl rfl ?_); intro L15 hBL15 hLL15
 refine OWp.gives rfl rfl (Gives.bytesToStr (F := _) (l := [UInt8.ofNat n, UInt8.ofNat (n / 256)]) (k := 2) rfl rfl rfl rfl rfl (twoReads (.head _))) (fun _ h => h) ?_
 refine Yc rfl rfl (deriveC (secret := [115, 101, 101, 100]) (label := [UInt8.ofNat n, UInt8.ofNat (n / 256)]) hks.cons (by decide) (by decide) (by simp [big]) ?_)
 rw [show derive [115, 101, 101, 100] [UInt8.ofNat n, UInt8.ofNat (n / 256)] 32 = seedM n from rfl]
 refine Yz 5 rfl ?_
 refine Yg 1 rfl ?_
 refine Yc rfl rfl (public19C (i := 0) hks.cons (by decide) ?_)
 refine Yc rfl rfl (public19C (i := 1) hks.cons (by decide) ?_)
 refine OWp.step rfl (Step.buildSlice rfl rfl rfl ?_); intro L24 hBL24 hLL24
 refine Ye 1 rfl ?_
 refine OWp.g rfl rfl (Gives.build rfl rfl) ?_
 refine OWp.g rfl rfl (Gives.build rfl rfl) ?_
 refine OWp.step rfl (Step.buildSlice rfl rfl rfl ?_); intro L28 hBL28 hLL28
 refine Yc rfl rfl (packC (ps := pubL privsM) (text := textM) (path := pathM w) hks.cons.cons.cons (by decide) (Reads.row (k := 2) (sz := 1) (.tail _ (.head _)) (Nat.le_of_ble_eq_true rfl)) (by decide) (Reads.row (k := 2) (sz := 5) (.head _) (Nat.le_of_ble_eq_true rfl)) (by show 2 ≤ 2932031007320; decide) ?_)
 rw [madeP_is hw]
 refine Yz 5 rfl ?_
 refine Yn 2 rfl ?_
 refine Wp.ret ⟨trivial, _, ⟨_, _, rfl, rfl, rfl⟩, ?_⟩
 exact ⟨S, subl, H⟩
theorem among19C {x : Int} {m : Nat} (hm : 0 < m) (hl : m ≤ 2147483648) (h : Q (.int .i64 (x % (m : Int))) S) : CallWp Tryz.prog B 12 #[.int .i64 x, .int .i64 (m : Int)] Q S := by
 refine Yx (args := [_, _]) Tryz.func12 Tryz.ntmps12 ?_
 refine Yn 1 rfl ?_
 refine Yg 2 rfl ?_
 refine OWp.g rfl rfl (Gives.rem rfl rfl rfl (by omega)) ?_
 refine Ye 3 rfl ?_
 refine OWp.g rfl rfl (Gives.rem rfl rfl rfl (by omega)) ?_
 refine Yz 1 rfl ?_
 refine Wp.ret ⟨trivial, _, ⟨_, _, rfl, rfl, rfl⟩, ?_⟩
 have h1 : -(m : Int) < x.tmod m := by
  rcases Int.le_total 0 x with h0 | h0
  ·have := Int.tmod_nonneg (m : Int) h0; omega
  ·have h3 := Int.tmod_lt_of_pos (-x) (show (0 : Int) < m by omega)
   rw [Int.neg_tmod] at h3; omega
 have h2 : x.tmod m < m := Int.tmod_lt_of_pos x (by omega)
 have e : (IntKind.i64.wrap (x.tmod (m : Int) + (m : Int))).tmod (m : Int) = x % (m : Int) := by
  rw [i64_id (by omega) (by omega)]
  rw [Int.tmod_eq_emod_of_nonneg (by omega), Int.add_emod_right]
  rw [Int.tmod_def, Int.sub_mul_emod_self_left]
 exact (congrArg (fun z => Q (.int .i64 z) S) e).mpr h
end
end Go.Proofs.D

/- The laws of the mixes' chapter: the example. -/
namespace Go.Proofs.D
open Go.Lg Go.Sha Go.Hd Go.Cv Go.Mx
open Go.Proofs.C (Hop hopP pathE)
open Go.Whl (T told left srt)
set_option maxRecDepth 100000
def cnc (x : Int × Int × Int) : List Value := [.int .i64 x.1, .int .i64 0, .int .i64 0, .int .i64 0, .int .i64 x.2.1, .int .i64 x.2.2]
def eqCn (x y : Int × Int × Int) : Bool := decide (x.1 = y.1) && (decide ((0 : Int) = 0) && (decide ((0 : Int) = 0) && (decide ((0 : Int) = 0) && (decide (x.2.1 = y.2.1) && (decide (x.2.2 = y.2.2) && true)))))
theorem cnG : Tryz.prog.eqGuardType Tryz.prog.depth 50 = false := by decide +kernel
theorem cnHeld : Tryz.prog.stoodInHeld 50 = false := by decide +kernel
theorem cnEq (x y : Int × Int × Int) : eqIn Tryz.prog 10 50 (.agg (cnc x).toArray) (.agg (cnc y).toArray) = some (eqCn x y) := by
 unfold eqIn
 rw [Tryz.underlying50, cnHeld]
 show eqFs Tryz.prog 9 (cnc x) (cnc y) _ = _
 rfl
section
variable {B : Nat} {S R : Ents} {Q : Value → Ents → Prop} {pm pn pd pr size total pool n : Nat} {tags : List (List UInt8)} {x : Nst} {W : Ents}
theorem countsC (h : NdIn B pn pd pr size total pool tags x n W) (hs : ∀ y ∈ W, y ∈ S) (H : Q (.agg (cnc ((x.on : Int), (x.twice : Int), (x.bad : Int))).toArray) S) : CallWp Tryz.prog B 18 #[pt pn] Q S := by
 obtain ⟨g1, g2, ps, pw, mp, Ws, Ww, g3, g4, g5, rfl⟩ := h
 refine CallWp.dropRet ?_
 refine Yx (args := [_]) Tryz.func18 Tryz.ntmps18 ?_
 refine Yq ?_
 refine Ya rfl rfl rfl rfl fun L2 hBL2 hLL2 => ?_
 refine OWp.nil ?_
 refine Yg 3 rfl ?_
 refine Yl (.tail _ (hs _ (.head _))) ?_
 refine OWp.step rfl (Step.storeAs 0 (cnc ((x.on : Int), (x.twice : Int), (x.bad : Int))) rfl rfl rfl rfl rfl (by assumption) rfl (Unfz.zero _) rfl (Nat.le_of_ble_eq_true rfl) rfl rfl ?_)
 refine OWp.nil ?_
 refine Wp.ret ⟨trivial, _, ⟨_, _, _, _, rfl, rfl, ⟨_, _, _, mems, (by first | assumption | rfl)⟩, rfl⟩, ?_⟩
 exact ⟨S, subl, H⟩
attribute [local irreducible] derive hmac publicR hdP bdP keysP pkPeelR packR madeP tagM privM
set_option maxHeartbeats 4000000 in
theorem works19C (hks : KsIn S) (H : Q (.bool true) S) : CallWp Tryz.prog B 11 #[] Q S := by
 obtain ⟨nxt, hn5, hpk⟩ := made_peel (n := 1) (w := 3) (by decide)
 refine CallWp.dropRet ?_
 refine Yx (args := []) Tryz.func11 Tryz.ntmps11 ?_
 refine Yn 1 rfl ?_
 refine Yq ?_
 refine Yc rfl rfl (dnewC (total := 20) (by decide) (by decide) ?_)
 intro pd pr W0 h0
 refine Yz 5 rfl ?_
 refine Wp.seq ?_
 refine Yg 3 rfl ?_
 refine Yz 3 rfl ?_
 refine Cu rfl (by exact fun h => h rfl) fun cc1 => ?_
 refine Wp.skip ?_
 refine Yq ?_
 refine Yc rfl rfl (private19C (i := 0) (KsIn_of hks fun y hy => List.mem_append_right _ hy) (by decide) ?_)
 refine Ye 1 rfl ?_
 refine Yc rfl rfl (mnewC (pool := 5) (tags := []) (size := 10) hks (privM_len 0) h0 (.inl ⟨rfl, rfl, rfl⟩) (by decide) (by decide) (by decide) (fun _ h => nomatch h) List.Pairwise.nil (by decide) (by decide) ?_)
 intro pm pn W1 h1
 refine Yz 5 rfl ?_
 refine Wp.seq ?_
 refine Yg 3 rfl ?_
 refine Ye 4 rfl ?_
 refine Du 29 rfl (by exact fun h => h rfl) fun cc2 => ?_
 refine Ye 1 rfl ?_
 refine Yc rfl rfl (made19C (n := 1) (w := 3) (KsIn_of hks fun y hy => .tail _ (List.mem_append_right _ hy)) (by decide) (by decide) ?_)
 refine Yc rfl rfl (CallWp.permS (Pe .rfl) (takeOkC (S := mxe pm pn (privM 0) :: S) hks.cons (.head _) hpk h1 (show 0 < 5 by decide) (by decide) (show 0 < 100 by decide) (show 0 + 2 ≤ 10 by decide) (tagM_len 1) (fun h => nomatch h) hn5 (show 0 < 100 by decide) (show 0 < 100000 by decide) (show 0 < 100000 by decide) ?_))
 intro W2 h2
 rw [List.nil_append] at h2
 refine Yz 2 rfl ?_
 refine Cu rfl (by exact fun h => h rfl) fun cc3 => ?_
 refine Wp.skip ?_
 refine Yg 3 rfl ?_
 refine Yl (List.mem_append_right _ (.head _)) ?_
 refine Yc rfl rfl (mtickC (to := 3) h2 (show 0 ≤ 3 by decide) (by decide) ?_)
 intro W3 ov3 oes3 ps3 h3 hv3 hl3 hp3
 obtain ⟨va3, vc3, rfl⟩ := hv3.reads.form
 refine Yz 5 rfl ?_
 refine Yg 3 rfl ?_
 refine Yl (List.mem_append_right _ (List.mem_append_right _ (.head _))) ?_
 refine Yc rfl rfl (mtickC (to := 4) h3 (show 3 ≤ 4 by decide) (by decide) ?_)
 intro W4 ov4 oes4 ps4 h4 hv4 hl4 hp4
 obtain ⟨va4, vc4, rfl⟩ := hv4.reads.form
 have e3 : ps3.length = 0 := hl3.trans (show (told [⟨4, 1, 1⟩] 3).length = 0 by decide)
 have e4 : ps4.length = 1 := hl4.trans (show (told (left [⟨4, 1, 1⟩] 3) 4).length = 1 by decide)
 refine Yz 5 rfl ?_
 refine Yg 3 rfl ?_
 refine Dv 53 rfl (by decide) fun cc4 => ?_
 refine Ye 5 rfl ?_
 refine Dv 58 rfl (by rw [e3]; decide) fun cc5 => ?_
 refine Ye 4 rfl ?_
 refine Dv 62 rfl (by decide) fun cc6 => ?_
 refine Ye 5 rfl ?_
 refine Dv 67 rfl (by rw [e4]; decide) fun cc7 => ?_
 obtain ⟨q, rfl⟩ : ∃ q, ps4 = [q] := by
  match ps4, e4 with
  | [q], _ => exact ⟨q, rfl⟩
 obtain ⟨b, o, cc, l, e, fz, hv, hm, hat⟩ := hv4.reads.elem (sz := 2) (fun _ _ => rfl) Nat.zero_lt_one
 obtain ⟨rfl, rfl⟩ : va4 = some ⟨b, o, none⟩ ∧ vc4 = cc := by simpa using hv
 refine Ye 1 rfl ?_
 refine OWp.g rfl rfl (Gives.indexAddrSlice (0) rfl rfl rfl rfl rfl rfl (by omega)) ?_
 refine Ye 1 rfl ?_
 refine OWp.load (List.mem_append_right _ (List.mem_append_left _ hm)) rfl rfl rfl rfl ((partAt_in (m := 0) (hat 0 Nat.zero_lt_one) rfl (by decide) (by decide)).trans rfl) ?_
 refine Ye 3 rfl ?_
 refine Dv 74 rfl (by decide) fun cc8 => ?_
 refine Ye 1 rfl ?_
 refine OWp.g rfl rfl (Gives.indexAddrSlice (0) rfl rfl rfl rfl rfl rfl (by omega)) ?_
 refine Ye 1 rfl ?_
 refine OWp.load (List.mem_append_right _ (List.mem_append_left _ hm)) rfl rfl rfl rfl ((partAt_in (m := 1) (hat 0 Nat.zero_lt_one) rfl (by decide) (by decide)).trans rfl) ?_
 refine Ye 4 rfl ?_
 refine Dv 82 rfl (by rw [show ([q] : List (List UInt8))[0] = q from rfl, hp4 q (.head _)]; decide) fun cc9 => ?_
 refine Ye 1 rfl ?_
 refine Yc rfl rfl (made19C (n := 1) (w := 3) (KsIn_of hks fun y hy => List.mem_append_right _ (List.mem_append_right _ (List.mem_append_right _ (.tail _ hy)))) (by decide) (by decide) ?_)
 have hL4 : (((nst0.more 3 nxt).ticked 3).ticked 4).L.length = 0 := by
  have h := h4.2.1.keys.length_eq
  rw [List.length_map, List.length_map] at h
  exact h.trans (show (left (left [⟨4, 1, 1⟩] 3) 4).length = 0 by decide)
 refine Yc rfl rfl (takeSeenC (S := oes4 ++ (oes3 ++ (mxe pm pn (privM 0) :: S))) (KsIn_of hks fun y hy => List.mem_append_right _ (List.mem_append_right _ (.tail _ hy))) (List.mem_append_right _ (List.mem_append_right _ (.head _))) hpk h4 (by rw [hL4]; decide) (by decide) (show 1 ≤ 4096 by decide) (tagM_len 1) (.head _) (show 0 < 100000 by decide) ?_)
 intro W5 h5
 refine Ye 3 rfl ?_
 refine Dv 88 rfl (by decide) fun cc10 => ?_
 refine Ye 3 rfl ?_
 refine Yl (List.mem_append_right _ (List.mem_append_right _ (List.mem_append_right _ (.head _)))) ?_
 refine Yc rfl rfl (countsC h5 (fun y hy => List.mem_append_left _ hy) ?_)
 refine OWp.g rfl rfl (Gives.build rfl rfl) ?_
 refine OWp.g rfl rfl (Gives.eqStruct (r := eqCn (1, 1, 0) (1, 1, 0)) 10 rfl rfl rfl rfl cnG (cnEq (1, 1, 0) (1, 1, 0))) ?_
 refine Yz 2 rfl ?_
 refine Wp.ret ⟨trivial, _, ⟨_, _, rfl, rfl, rfl⟩, ?_⟩
 exact ⟨S, (List.sublist_cons_self _ _).trans ((List.sublist_append_right oes3 _).trans ((List.sublist_append_right oes4 _).trans (List.sublist_append_right W5 _))), H⟩
end
end Go.Proofs.D

/- MixPool: just as many packets wait as the pool has. -/
namespace Go.Proofs.D
open Go.Lg Go.Sha Go.Hd Go.Cv Go.Mx
open Go.Proofs.C (Hop hopP pathE)
open Go.Whl (T told left srt)
set_option maxRecDepth 100000
theorem nb_tt {p : Prop} [Decidable p] (h : p) : ¬ ((!(decide ((0 : Int) = 0) == decide p)) = true) := by simp [h]
theorem nb_ff {p : Prop} [Decidable p] (h : ¬p) : ¬ ((!(decide ((190 : Int) = 0) == decide p)) = true) := by simp [h]
def tagsM (k : Nat) : List (List UInt8) := (List.range k).map tagM
theorem tagsM_succ (k : Nat) : tagsM (k + 1) = tagsM k ++ [tagM k] := by simp [tagsM, List.range_succ]
theorem tagsM_len (k : Nat) : (tagsM k).length = k := by simp [tagsM]
theorem tagsM_in {i k : Nat} (h : i < k) : tagM i ∈ tagsM k := List.mem_map.2 ⟨i, List.mem_range.2 h, rfl⟩
theorem tagsM_out {k : Nat} (h : k < 10) : tagM k ∉ tagsM k := by
 intro hm
 obtain ⟨i, hi, e⟩ := List.mem_map.1 hm
 have hi := List.mem_range.1 hi
 have := tagM_inj (by omega) h e
 omega
/-- What the first round leaves, and the second one. -/
structure Pst (P i : Nat) (x : Nst) : Prop where
 now : x.now = 0
 put : x.put = min i P
 on : x.on = min i P
 tw : x.twice = 0
 bad : x.bad = i - min i P
 len : x.M.length = min i P
 due : ∀ t ∈ x.M, t.due ≤ 1
structure Pst2 (P N i : Nat) (x : Nst) : Prop where
 put : x.put ≤ 10 + i
 on : x.on = min N P + (min i (2 * P) - min i P)
 tw : x.twice = min i P
 bad : x.bad = (N - min N P) + (i - min i (2 * P))
 len : x.M.length = min i (2 * P) - min i P
theorem NOk.LM {x : Nst} (h : NOk x) : x.L.length = x.M.length := by have := h.keys.length_eq; simpa using this
theorem drec {p : Prop} {d : Decidable p} {a b : Int} : (Decidable.rec (motive := fun _ => Int) (fun _ => a) (fun _ => b) d) = @ite Int p d b a := by cases d <;> rfl
theorem eqCn_of {a b : Int × Int × Int} (h1 : a.1 = b.1) (h2 : a.2.1 = b.2.1) (h3 : a.2.2 = b.2.2) : eqCn a b = true := by simp [eqCn, h1, h2, h3]
attribute [local irreducible] derive hmac publicR hdP bdP keysP pkPeelR packR madeP tagM privM
section
variable {B : Nat} {S R : Ents} {Q : Value → Ents → Prop}
set_option maxHeartbeats 8000000 in
theorem mixPoolW {S : Ents} {a0 a1 : Int} (hks : KsIn S) (_rd0 : Rd Tryz.prog S 3 [.int .i64 a0]) (_rd1 : Rd Tryz.prog S 3 [.int .i64 a1]) :
  CallWp Tryz.prog B 4 #[.int .i64 a0, .int .i64 a1] (fun v _ => v = .bool true) S := by
 refine Yx (args := [_, _]) Tryz.func4 Tryz.ntmps4 ?_
 refine Yn 1 rfl ?_
 refine Yq ?_
 refine Yc rfl rfl (dnewC (total := 60) (by decide) (by decide) ?_)
 intro pd pr W0 h0
 refine Yz 5 rfl ?_
 refine Wp.seq ?_
 refine Yg 3 rfl ?_
 refine Ye 4 rfl ?_
 refine Du 23 rfl (by exact fun h => h rfl) fun cc1 => ?_
 refine Yc rfl rfl (works19C (KsIn_of hks fun y hy => List.mem_append_right _ hy) ?_)
 refine Yz 2 rfl ?_
 refine Cn rfl ?_
 refine Wp.skip ?_
 refine Yg 1 rfl ?_
 refine Yc rfl rfl (among19C (m := 5) (by decide) (by decide) ?_)
 obtain ⟨p0, hp0, hp5⟩ : ∃ n : Nat, a0 % ((5 : Nat) : Int) = (n : Int) ∧ n < 5 := ⟨(a0 % 5).toNat, by omega, by omega⟩
 rw [hp0]
 obtain ⟨P, hP, hP1, hP5⟩ : ∃ P : Nat, IntKind.i64.wrap (1 + (p0 : Int)) = (P : Int) ∧ 1 ≤ P ∧ P ≤ 5 := ⟨1 + p0, by rw [i64_id] <;> omega, by omega, by omega⟩
 refine Yz 2 rfl ?_
 rw [hP]
 refine Yg 1 rfl ?_
 refine Yc rfl rfl (among19C (m := 9) (by decide) (by decide) ?_)
 obtain ⟨N, hN, hN9⟩ : ∃ n : Nat, a1 % ((9 : Nat) : Int) = (n : Int) ∧ n < 9 := ⟨(a1 % 9).toNat, by omega, by omega⟩
 rw [hN]
 refine Yz 1 rfl ?_
 refine Yq ?_
 refine Yc rfl rfl (private19C (i := 0) (KsIn_of hks fun y hy => List.mem_append_right _ hy) (by decide) ?_)
 refine Ye 2 rfl ?_
 refine Yc rfl rfl (mnewC (pool := P) (tags := tagsM 0) (size := 30) hks (privM_len 0) h0 (.inl ⟨rfl, rfl, rfl⟩) (by decide) (by decide) (by decide) (fun _ h => nomatch h) List.Pairwise.nil hP1 (by omega) ?_)
 intro pm pn W1 h1
 refine Yz 5 rfl ?_
 refine Wp.seq ?_
 refine Yg 3 rfl ?_
 refine Yz 3 rfl ?_
 refine Cu rfl (by exact fun h => h rfl) fun cc2 => ?_
 obtain ⟨Z, hZ⟩ : ∃ z, z = mxe pm pn (privM 0) :: S := ⟨_, rfl⟩
 have hkZ : KsIn Z := by rw [hZ]; exact hks.cons
 have hmZ : mxe pm pn (privM 0) ∈ Z := by rw [hZ]; exact .head _
 refine Wp.skip ?_
 refine Wp.seq ?_
 refine Yn 2 rfl ?_
 refine Wp.block ?_
 refine Wp.loopS (α := Nat × Nst × Ents) (fun z => N - z.1) (fun z => [(0, .int .i64 (P : Int)), (1, .int .i64 (N : Int)), (7, pt pm), (45, .int .i64 (N : Int)), (46, .int .i64 (z.1 : Int))]) (fun z => z.2.2 ++ Z) (fun z => z.1 ≤ N ∧ NdIn B pn pd pr 30 60 P (tagsM (min z.1 P)) z.2.1 0 z.2.2 ∧ Pst P z.1 z.2.1) (0, nst0, W1) ?_ (by rw [hZ]; exact permBy [[mxe pm pn (privM 0)], W1] S [0, 1] [1, 0] (by decide)) ⟨Nat.zero_le _, by rw [Nat.zero_min]; exact h1, ⟨rfl, by rw [Nat.zero_min]; rfl, by rw [Nat.zero_min]; rfl, rfl, by rw [Nat.zero_min]; rfl, by rw [Nat.zero_min]; rfl, fun _ h => nomatch h⟩⟩ ?_
 ·exact .cons rfl (.cons rfl (.cons rfl (.cons rfl (.cons rfl (.nil _)))))
 rintro ⟨i, x, W⟩ ⟨hi, hx, hp⟩
 simp only at hi hx hp ⊢
 have hLM := hx.2.1.LM
 have hpl := hp.len
 refine Yn 1 rfl ?_
 refine Wp.seq ?_
 refine Wp.cond rfl (fun c1 => ?_) (fun c1 => ?_)
 ·have c1 := of_decide_eq_true c1
  obtain ⟨nxt, hn5, hpk⟩ := made_peel (n := i) (w := 0) (by decide)
  refine Wp.skip ?_
  refine Wp.seq ?_
  refine Wp.block ?_
  refine Yn 2 rfl ?_
  refine Yg 2 rfl ?_
  refine Yc rfl rfl (made19C (n := i) (w := 0) (KsIn_of hkZ fun y hy => List.mem_append_right _ hy) (by omega) (by decide) ?_)
  by_cases hiP : i < P
  ·skip
   have hm1 : min i P = i := by omega
   rw [hm1] at hx hpl
   refine Yc rfl rfl (takeOkC hkZ hmZ hpk hx (by omega) (by decide) (by rw [tagsM_len]; omega) (by rw [tagsM_len]; omega) (tagM_len i) (tagsM_out (by omega)) hn5 (by omega) (by have := hp.put; omega) (by have := hp.on; omega) ?_)
   intro W' h'
   rw [← tagsM_succ] at h'
   refine Yz 1 rfl ?_
   refine Yg 7 rfl ?_
   refine OWp.part 59 rfl (fun cc3 => (by exact absurd (by assumption) (nb_tt (by omega)))) (fun cc3 => ?_)
   refine Ye 3 rfl ?_
   refine Du 62 rfl (by exact fun h => h rfl) fun cc4 => ?_
   refine Yz 4 rfl ?_
   refine Cn rfl ?_
   refine Wp.skip ?_
   refine Wp.region ?_
   refine Yz 2 rfl ?_
   refine ⟨(i + 1, x.more 0 nxt, W'), by simp only; omega, ⟨by simp only; omega, ?_, ?_⟩, .cons rfl (.cons rfl (.cons rfl (.cons rfl (.cons' rfl (int_eq (i64_inc (by omega))) (.nil _))))), .refl _⟩
   ·simp only
    rw [show min (i + 1) P = i + 1 by omega]
    exact h'
   ·refine ⟨hp.now, ?_, ?_, hp.tw, ?_, ?_, ?_⟩
    ·show x.put + 1 = _; have := hp.put; omega
    ·show x.on + 1 = _; have := hp.on; omega
    ·show x.bad = _; have := hp.bad; omega
    ·show (x.M ++ [_]).length = _; rw [List.length_append, List.length_singleton]; omega
    ·intro t ht
     have ht : t ∈ x.M ++ [⟨x.now + 1 + 0, ((x.put + 1 : Nat) : Int), x.put + 1⟩] := ht
     rcases List.mem_append.1 ht with ht | ht
     ·exact hp.due t ht
     ·rw [List.mem_singleton.1 ht]; show x.now + 1 + 0 ≤ 1; rw [hp.now]; decide
  refine Yc rfl rfl (takeFullC hkZ hmZ hpk hx (by omega) (by have := hp.bad; omega) ?_)
  intro W' h'
  refine Yz 1 rfl ?_
  refine Yg 7 rfl ?_
  refine OWp.part 59 rfl (fun cc5 => (by exact absurd (by assumption) (nb_ff (by omega)))) (fun cc5 => ?_)
  refine Ye 3 rfl ?_
  refine Dw 62 rfl (by decide) fun cc6 => ?_
  refine Yz 4 rfl ?_
  refine Cu rfl (by exact fun h => h rfl) fun cc7 => ?_
  refine Wp.skip ?_
  refine Wp.region ?_
  refine Yz 2 rfl ?_
  refine ⟨(i + 1, x.badd, W'), by simp only; omega, ⟨by simp only; omega, ?_, ?_⟩, .cons rfl (.cons rfl (.cons rfl (.cons rfl (.cons' rfl (int_eq (i64_inc (by omega))) (.nil _))))), .refl _⟩
  ·simp only
   rw [show min (i + 1) P = min i P by omega]
   exact h'
  ·refine ⟨hp.now, ?_, ?_, hp.tw, ?_, ?_, hp.due⟩
   ·show x.put = _; have := hp.put; omega
   ·show x.on = _; have := hp.on; omega
   ·show x.bad + 1 = _; have := hp.bad; omega
   ·show x.M.length = _; omega
 have c1 := of_decide_eq_false c1
 obtain rfl : i = N := by omega
 refine Wp.exit ?_
 refine Yg 3 rfl ?_
 refine Yl (List.mem_append_right _ hmZ) ?_
 refine Yc rfl rfl (mtickC (to := 1) hx (by rw [hp.now]; decide) (by decide) ?_)
 intro W2 ov oes ps h2 hov hpsl hps
 obtain ⟨oa, oc, rfl⟩ := hov.reads.form
 have hpl2 : ps.length = min i P := hpsl.trans ((E.told_len hp.due).trans hpl)
 have hM2 : (x.ticked 1).M = [] := E.left_none hp.due
 have hL2 : (x.ticked 1).L.length = 0 := by rw [h2.2.1.LM, hM2]; rfl
 refine Yz 5 rfl ?_
 refine Wp.seq ?_
 refine Yg 3 rfl ?_
 refine Du 78 rfl (by exact fun h => h rfl) fun cc8 => ?_
 refine Ye 8 rfl ?_
 refine Du 86 rfl (by rw [hpl2]; intro h; apply h; split <;> omega) fun cc9 => ?_
 refine Ye 3 rfl ?_
 refine Yl (List.mem_append_right _ (List.mem_append_right _ hmZ)) ?_
 refine Yc rfl rfl (waitsC h2 (fun y hy => List.mem_append_left _ hy) ?_)
 refine Yz 2 rfl ?_
 refine Cu rfl (by rw [hL2]; decide) fun cc10 => ?_
 obtain ⟨x2, hx2⟩ : ∃ z, z = x.ticked 1 := ⟨_, rfl⟩
 have q1 : x2.put = min i P := by rw [hx2]; exact hp.put
 have q2 : x2.on = min i P := by rw [hx2]; exact hp.on
 have q3 : x2.twice = 0 := by rw [hx2]; exact hp.tw
 have q4 : x2.bad = i - min i P := by rw [hx2]; exact hp.bad
 have q5 : x2.M.length = 0 := by rw [hx2, hM2]; rfl
 rw [← hx2] at h2
 have e2P : IntKind.i64.wrap (2 * (P : Int)) = 2 * (P : Int) := by rw [i64_id] <;> omega
 obtain ⟨Z2, hZ2⟩ : ∃ z, z = oes ++ Z := ⟨_, rfl⟩
 have hkZ2 : KsIn Z2 := by rw [hZ2]; exact KsIn_of hkZ fun y hy => List.mem_append_right _ hy
 have hmZ2 : mxe pm pn (privM 0) ∈ Z2 := by rw [hZ2]; exact List.mem_append_right _ hmZ
 rw [← hZ2]
 refine Wp.skip ?_
 refine Wp.seq ?_
 refine Yn 2 rfl ?_
 refine Wp.block ?_
 refine Wp.loopS (α := Nat × Nst × Ents) (fun z => i - z.1) (fun z => [(0, .int .i64 (P : Int)), (1, .int .i64 (i : Int)), (7, pt pm), (94, .int .i64 (i : Int)), (95, .int .i64 (z.1 : Int))]) (fun z => z.2.2 ++ Z2) (fun z => z.1 ≤ i ∧ NdIn B pn pd pr 30 60 P (tagsM (min i P + (min z.1 (2 * P) - min z.1 P))) z.2.1 0 z.2.2 ∧ Pst2 P i z.1 z.2.1) (0, x2, W2) ?_ (.refl _) ⟨Nat.zero_le _, by rw [Nat.zero_min, Nat.zero_min]; exact h2, (show Pst2 P i 0 x2 from ⟨by omega, by omega, by omega, by omega, by omega⟩)⟩ ?_
 ·exact .cons rfl (.cons rfl (.cons rfl (.cons rfl (.cons rfl (.nil _)))))
 rintro ⟨k, y, V⟩ ⟨hk, hy, hq⟩
 simp only at hk hy hq ⊢
 have hLy := hy.2.1.LM
 have r1 := hq.put
 have r2 := hq.on
 have r3 := hq.tw
 have r4 := hq.bad
 have r5 := hq.len
 refine Yn 1 rfl ?_
 refine Wp.seq ?_
 refine Wp.cond rfl (fun c2 => ?_) (fun c2 => ?_)
 ·have c2 := of_decide_eq_true c2
  obtain ⟨nxt, hn5, hpk⟩ := made_peel (n := k) (w := 0) (by decide)
  refine Wp.skip ?_
  refine Wp.seq ?_
  refine Wp.block ?_
  refine Yq ?_
  by_cases hkP : k < P
  ·skip
   refine Yz 2 rfl ?_
   refine Yn 1 rfl ?_
   refine Wp.seq ?_
   refine Yn 3 rfl ?_
   refine Cv rfl (by omega) fun cc11 => ?_
   refine Wp.region ?_
   refine Yz 1 rfl ?_
   refine Yg 2 rfl ?_
   refine Yc rfl rfl (made19C (n := k) (w := 0) (KsIn_of hkZ2 fun y hy => List.mem_append_right _ hy) (by omega) (by decide) ?_)
   refine Yc rfl rfl (takeSeenC hkZ2 hmZ2 hpk hy (by omega) (by decide) (by rw [tagsM_len]; omega) (tagM_len k) (tagsM_in (by omega)) (by omega) ?_)
   intro V' h'
   refine Yz 2 rfl ?_
   refine Cu rfl (by exact fun h => h rfl) fun cc12 => ?_
   refine Wp.skip ?_
   refine Wp.region ?_
   refine Yz 2 rfl ?_
   refine ⟨(k + 1, y.twiced, V'), by simp only; omega, ⟨by simp only; omega, ?_, ⟨(show y.put ≤ 10 + (k + 1) by omega), ?_, ?_, ?_, ?_⟩⟩, .cons rfl (.cons rfl (.cons rfl (.cons rfl (.cons' rfl (int_eq (i64_inc (by omega))) (.nil _))))), .refl _⟩
   ·simp only
    rw [show min (k + 1) (2 * P) - min (k + 1) P = min k (2 * P) - min k P by omega]
    exact h'
   ·show y.on = _; omega
   ·show y.twice + 1 = _; omega
   ·show y.bad = _; omega
   ·show y.M.length = _; omega
  refine Yz 2 rfl ?_
  refine Yn 1 rfl ?_
  refine Wp.seq ?_
  refine Yn 3 rfl ?_
  refine Ct rfl (by omega) fun cc13 => ?_
  refine Yq ?_
  by_cases hk2 : k < 2 * P
  ·skip
   refine Yz 4 rfl ?_
   refine Ct rfl (by rw [e2P]; omega) fun cc14 => ?_
   refine Wp.skip ?_
   refine Yg 2 rfl ?_
   refine Yc rfl rfl (made19C (n := k) (w := 0) (KsIn_of hkZ2 fun y hy => List.mem_append_right _ hy) (by omega) (by decide) ?_)
   have et : min i P + (min k (2 * P) - min k P) = k := by omega
   rw [et] at hy
   refine Yc rfl rfl (takeOkC hkZ2 hmZ2 hpk hy (by omega) (by decide) (by rw [tagsM_len]; omega) (by rw [tagsM_len]; omega) (tagM_len k) (tagsM_out (by omega)) hn5 (by omega) (by omega) (by omega) ?_)
   intro V' h'
   rw [← tagsM_succ] at h'
   refine Yz 2 rfl ?_
   refine Cu rfl (by exact fun h => h rfl) fun cc15 => ?_
   refine Wp.skip ?_
   refine Wp.region ?_
   refine Yz 2 rfl ?_
   refine ⟨(k + 1, y.more 0 nxt, V'), by simp only; omega, ⟨by simp only; omega, ?_, ⟨?_, ?_, ?_, ?_, ?_⟩⟩, .cons rfl (.cons rfl (.cons rfl (.cons rfl (.cons' rfl (int_eq (i64_inc (by omega))) (.nil _))))), .refl _⟩
   ·simp only
    rw [show min i P + (min (k + 1) (2 * P) - min (k + 1) P) = k + 1 by omega]
    exact h'
   ·show y.put + 1 ≤ 10 + (k + 1); omega
   ·show y.on + 1 = _; omega
   ·show y.twice = _; omega
   ·show y.bad = _; omega
   ·show (y.M ++ [_]).length = _; rw [List.length_append, List.length_singleton]; omega
  refine Yz 4 rfl ?_
  refine Cv rfl (by rw [e2P]; omega) fun cc16 => ?_
  refine Wp.region ?_
  refine Yz 1 rfl ?_
  refine Yg 2 rfl ?_
  refine Yc rfl rfl (made19C (n := k) (w := 0) (KsIn_of hkZ2 fun y hy => List.mem_append_right _ hy) (by omega) (by decide) ?_)
  refine Yc rfl rfl (takeFullC hkZ2 hmZ2 hpk hy (by omega) (by omega) ?_)
  intro V' h'
  refine Yz 2 rfl ?_
  refine Cu rfl (by exact fun h => h rfl) fun cc17 => ?_
  refine Wp.skip ?_
  refine Wp.region ?_
  refine Yz 2 rfl ?_
  refine ⟨(k + 1, y.badd, V'), by simp only; omega, ⟨by simp only; omega, ?_, ⟨(show y.put ≤ 10 + (k + 1) by omega), ?_, ?_, ?_, ?_⟩⟩, .cons rfl (.cons rfl (.cons rfl (.cons rfl (.cons' rfl (int_eq (i64_inc (by omega))) (.nil _))))), .refl _⟩
  ·simp only
   rw [show min (k + 1) (2 * P) - min (k + 1) P = min k (2 * P) - min k P by omega]
   exact h'
  ·show y.on = _; omega
  ·show y.twice = _; omega
  ·show y.bad + 1 = _; omega
  ·show y.M.length = _; omega
 have c2 := of_decide_eq_false c2
 obtain rfl : k = i := by omega
 have e3P : IntKind.i64.wrap ((k : Int) - (P : Int)) = (k : Int) - (P : Int) := by rw [i64_id] <;> omega
 have e4P : IntKind.i64.wrap ((k : Int) - 2 * (P : Int)) = (k : Int) - 2 * (P : Int) := by rw [i64_id] <;> omega
 refine Wp.exit ?_
 refine Yg 3 rfl ?_
 refine Yl (List.mem_append_right _ hmZ2) ?_
 refine Yc rfl rfl (countsC hy (fun y hy => List.mem_append_left _ hy) ?_)
 refine Ye 17 rfl ?_
 refine OWp.g rfl rfl (Gives.build rfl rfl) ?_
 refine OWp.g rfl rfl (Gives.eqStruct (r := eqCn (_, _, _) (_, _, _)) 10 rfl rfl rfl rfl cnG (cnEq (_, _, _) (_, _, _))) ?_
 refine Yz 1 rfl ?_
 refine Wp.ret ⟨trivial, _, ⟨_, _, rfl, rfl, rfl⟩, ?_⟩
 exact congrArg Value.bool (eqCn_of (by simp only [drec, e2P]; split <;> omega) (by simp only [drec]; split <;> omega) (by show (y.bad : Int) = IntKind.i64.wrap ((if IntKind.i64.wrap ((k : Int) - (P : Int)) > 0 then IntKind.i64.wrap ((k : Int) - (P : Int)) else 0) + (if IntKind.i64.wrap ((k : Int) - IntKind.i64.wrap (2 * (P : Int))) > 0 then IntKind.i64.wrap ((k : Int) - IntKind.i64.wrap (2 * (P : Int))) else 0)); rw [e2P, e3P, e4P]; split <;> split <;> rw [i64_id] <;> omega))
end
end Go.Proofs.D

/- The tables that the rows list: what they give to a walk, and a world in which they lie. -/
namespace Go.Proofs.D
open Go.Lg Go.Sha
set_option maxRecDepth 100000

def Laid : List (String × DataW Unit) := [("unicode/utf8.acceptRanges", YtkjaehdfmmcgmaaGreatDoor.Rows.laid_unicode_utf8_acceptRanges), ("dovecote/hash.ks", YtkjaehdfmmcgmaaGreatDoor.Rows.laid_dovecote_hash_ks), ("unicode/utf8.first", YtkjaehdfmmcgmaaGreatDoor.Rows.laid_unicode_utf8_first)]
def Laid1 : List (String × DataW Unit) := [("dovecote/hash.ks", YtkjaehdfmmcgmaaGreatDoor.Rows.laid_dovecote_hash_ks)]
def ksZ : List Int := ks.map fun (n : Nat) => (n : Int)
theorem ks_is : (YtkjaehdfmmcgmaaGreatDoor.Rows.laid_dovecote_hash_ks : DataW Unit) = Lib.tabData .u32 ksZ := by rfl
theorem ksZ_get (i : Nat) (h : i < 64) : ksZ.getD i 0 = ((ks.getD i 0 : Nat) : Int) := by
 have hl : i < ks.length := h
 unfold ksZ
 rw [List.getD_eq_getElem?_getD, List.getElem?_map, List.getD_eq_getElem?_getD, List.getElem?_eq_getElem hl]
 rfl
theorem ks_at {W : World} {r : List (String × DataW Unit)} (h : laidMet Tryz.prog (("dovecote/hash.ks", YtkjaehdfmmcgmaaGreatDoor.Rows.laid_dovecote_hash_ks) :: r) W) : KsIn (All W) := by
 rw [ks_is] at h
 have ht := Lib.tabIs_of_head (g := 0) (n := 64) (by kernel_rfl) (t := 315) (by kernel_rfl) Tryz.underlying315 Tryz.underlying250 (by kernel_rfl) (by kernel_rfl) h
 have hc : ∀ i, i < 64 → W.cell? ⟨0, i, none⟩ = some (.int .u32 (ks.getD i 0 : Nat)) := by
  intro i hi
  have := ht.cell (g := 0) (by kernel_rfl) i (by rw [show ksZ.length = 64 from rfl]; exact hi)
  rw [ksZ_get i hi] at this
  exact this
 have h0 := hc 0 (by decide)
 have : ∃ l e fz, W.heap[0]? = some (.cells l e fz) := by
  unfold World.cell? at h0
  split at h0
  ·rename_i c0 e0 f0 hb; exact ⟨c0, e0, f0, hb⟩
  ·simp at h0
 obtain ⟨l, e, fz, hl⟩ := this
 refine ⟨l.toList, e, fz, All.mem hl, fun i hi => ?_⟩
 have := hc i hi
 unfold World.cell? at this
 simp only [hl] at this
 simpa using this
theorem of_laid {W : World} (h : laidMetH Tryz.prog Laid W) : KsIn (All W) := by
 rw [MakeChecks.laidMetH_plain _ _ _ (by kernel_rfl)] at h
 exact ks_at h.tail
noncomputable def laidWorld (os : Os) : World :=
 let w0 := World.doorLaid Tryz.prog 24 os
 { w0 with heap := w0.heap.modify 1 fun
   | .cells _ t frozen => .cells (Go.Pinned.utf8FirstZ.map fun (n : Nat) => Value.int .u8 (n : Int)).toArray t frozen
   | o => o }
theorem laid_met (os : Os) (args : Array Value) : laidMetH Tryz.prog Laid ((laidWorld os).forCall (fun _ _ => 0) ⟨#[], args, []⟩).memory :=
 laidMetH_of_parts3 (fuel := 8) (laidMet_of_run' 8 (by kernel_rfl) (by kernel_rfl)) (by kernel_rfl) (by kernel_rfl)
theorem laid_shaped (os : Os) (args : Array Value) : ((laidWorld os).forCall (fun _ _ => 0) ⟨#[], args, []⟩).Shaped Tryz.prog :=
 World.shaped_of_RefB (by kernel_rfl) (by kernel_rfl)
end Go.Proofs.D
