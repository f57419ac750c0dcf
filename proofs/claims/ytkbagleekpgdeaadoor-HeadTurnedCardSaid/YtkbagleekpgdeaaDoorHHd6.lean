/- What functions of the given program do, one after the other, told by that layer. -/
import Derived.Test.YtkbagleekpgdeaaDoorHM7x1903
import Derived.Test.YtkbagleekpgdeaaDoorHM8xd613
import Derived.Test.YtkbagleekpgdeaaDoorEHeadW
namespace Go.Proofs.D
open Go.Lg Go.Sha Go.Hd Go.Cv
open Go.Proofs.C (Hop hopP hopB parse pathE encB hopG)
set_option maxRecDepth 100000
theorem privByte (i : Nat) (hi : i < 1000) : IntKind.u8.wrap (IntKind.i64.wrap (48 + (i : Int))) = ((UInt8.ofNat (48 + i)).toNat : Int) := by
  rw [i64_id (by omega) (by omega), show (48 : Int) + (i : Int) = ((48 + i : Nat) : Int) by omega, u8_lo]
def xHop : Hop := ⟨4, 0, 0, 0, []⟩
theorem x_bytes : encB xHop = [4, 0, 0, 0, 0, 0, 0, 0, 0, 0, 0, 0, 0, 0, 0, 0, 0, 0, 0, 0, 0, 0, 0, 0] := by decide +kernel
theorem x_path : pathE [xHop] = 0 := by decide +kernel
theorem x_dec : decF [4, 0, 0, 0, 0, 0, 0, 0, 0, 0, 0, 0, 0, 0, 0, 0, 0, 0, 0, 0, 0, 0, 0, 0] = (xHop, 0) := by
  have h : hopP xHop ∧ hopB xHop = [4, 0, 0, 0, 0, 0, 0, 0, 0, 0, 0, 0, 0, 0, 0, 0, 0, 0, 0, 0, 0, 0, 0, 0] := by decide +kernel
  have e : parse true [4, 0, 0, 0, 0, 0, 0, 0, 0, 0, 0, 0, 0, 0, 0, 0, 0, 0, 0, 0, 0, 0, 0, 0] = xHop := by rfl
  unfold decF
  rw [e, if_pos h]
theorem x_make : makeR exSeed [exPub] [xHop] = (exHead, [exKeys], 0) := by
  unfold makeR
  rw [if_neg (fun h => h x_path), if_neg (by decide), if_neg (by decide), ex_hops, if_neg (by decide)]
  simp only [List.map_cons, List.map_nil, ex_keys, x_bytes, ex_head]
theorem x_peel : peelR exPriv exHead = (xHop, [], exKeys, 0) := by
  unfold peelR
  rw [if_neg (by decide), ex_back, if_neg (by decide), ex_keys, if_neg (fun h => h ex_mac)]
  unfold openR
  simp only
  rw [ex_open, x_dec, if_neg (by decide), if_pos (by decide)]
theorem keyG : Tryd.prog.eqGuardType Tryd.prog.depth 33 = false := by decide +kernel
def eqHK (x y : HK) : Bool := decide (x.flow = y.flow) && (decide (x.mac = y.mac) && (decide (x.body = y.body) && (decide (x.blind = y.blind) && (decide (x.tag = y.tag) && true))))
theorem eqHK_iff {x y : HK} : eqHK x y = true ↔ x = y := by
  obtain ⟨a, b, c, d, e⟩ := x
  obtain ⟨a', b', c', d', e'⟩ := y
  simp [eqHK]
theorem keyEq (x y : HK) : eqIn Tryd.prog 10 33 (.agg x.cells.toArray) (.agg y.cells.toArray) = some (eqHK x y) := by
  rfl
theorem keySelf (x : HK) : eqIn Tryd.prog 10 33 (.agg x.cells.toArray) (.agg x.cells.toArray) = some true := by rw [keyEq, eqHK_iff.2 rfl]
theorem hopSelf (x : Hop) : eqIn Tryd.prog 10 31 (.agg x.cells.toArray) (.agg x.cells.toArray) = some true := by
  have h : eqIn Tryd.prog 10 31 (.agg x.cells.toArray) (.agg x.cells.toArray) = some (C.eqHop x x) := by rfl
  rw [h, C.eqHop_iff.2 rfl]
attribute [local irreducible] derive hmac stream sharedR timesR makeR peelR exSeed exPriv exPub exSec exKeys exHead
section
variable {B : Nat} {S R : Ents} {Q : Value → Ents → Prop}
theorem privateC {s : List UInt8} {i : Nat} (hks : KsIn S) (hs : s.length + 1000 ≤ big) (hi : i < 1000) (H : Q (.string (str (privR s i))) S) : CallWp Tryd.prog B 8 #[.string (str s), .int .i64 (i : Int)] Q S := by
  refine CallWp.dropRet ?_
  refine CallWp.enter (args := [_, _]) Tryd.func8 rfl Tryd.ntmps8 rfl ?_
  refine Wp.seq (Wp.region ?_)
  refine OWp.evs 1 rfl ?_
  refine OWp.nil ?_
  refine Wp.seq (Wp.region ?_)
  refine OWp.evs 4 rfl ?_
  refine OWp.step rfl (Step.buildSlice rfl rfl rfl ?_); intro L hBL hLL
  refine OWp.gives rfl rfl (Gives.bytesToStr (F := (L, cel [.int .u8 (IntKind.u8.wrap (IntKind.i64.wrap (48 + (i : Int))))] 5) :: S) (l := [UInt8.ofNat (48 + i)]) (k := 1) rfl rfl rfl rfl rfl (one_byte (privByte i hi))) (fun _ h => h) ?_
  refine OWp.g rfl rfl (Gives.addStr rfl rfl rfl (by simp only [List.length_cons, List.length_nil]; omega)) ?_
  refine OWp.step rfl (Step.call rfl rfl rfl rfl rfl rfl ((deriveC (label := [112, 114, 105, 118, 97, 116, 101, UInt8.ofNat (48 + i)]) hks.cons (by decide) hs (by simp [big]) ?_)))
  refine OWp.evs 5 rfl ?_
  refine OWp.nil ?_
  refine Wp.seq (Wp.region ?_)
  refine OWp.evs 2 rfl ?_
  refine OWp.nil ?_
  refine Wp.ret ⟨trivial, _, ⟨_, _, rfl, rfl, rfl⟩, ?_⟩
  exact ⟨S, subl, H⟩
theorem publicLC {s : List UInt8} {i : Nat} (hks : KsIn S) (hs : s.length + 1000 ≤ big) (hi : i < 1000) (H : Q (.string (str (publicR (privR s i)).1)) S) : CallWp Tryd.prog B 9 #[.string (str s), .int .i64 (i : Int)] Q S := by
  refine CallWp.enter (args := [_, _]) Tryd.func9 rfl Tryd.ntmps9 rfl ?_
  refine Wp.seq (Wp.region ?_)
  refine OWp.evs 1 rfl ?_
  refine OWp.nil ?_
  refine Wp.seq (Wp.region ?_)
  refine OWp.evs 2 rfl ?_
  refine OWp.step rfl (Step.call rfl rfl rfl rfl rfl rfl ((privateC hks hs hi ?_)))
  refine OWp.step rfl (Step.call rfl rfl rfl rfl rfl rfl ((publicC ?_)))
  refine OWp.evs 5 rfl ?_
  refine OWp.nil ?_
  refine Wp.seq (Wp.region ?_)
  refine OWp.evs 2 rfl ?_
  refine OWp.nil ?_
  refine Wp.ret ⟨trivial, _, ⟨_, _, rfl, rfl, rfl⟩, ?_⟩
  exact H
set_option maxHeartbeats 4000000 in
theorem worksC (hks : KsIn S) (H : Q (.bool true) S) : CallWp Tryd.prog B 7 #[] Q S := by
  refine CallWp.dropRet ?_
  refine CallWp.enter (args := []) Tryd.func7 rfl Tryd.ntmps7 rfl ?_
  refine Wp.seq (Wp.region ?_)
  refine OWp.evs 1 rfl ?_
  refine OWp.nil ?_
  refine Wp.seq (Wp.region ?_)
  refine OWp.step rfl (Step.call rfl rfl rfl rfl rfl rfl ((privateC (s := [115, 101, 101, 100]) (i := 0) hks (by decide) (by decide) ?_)))
  rw [ex_seed]
  refine OWp.evs 1 rfl ?_
  refine OWp.nil ?_
  refine Wp.seq (Wp.region ?_)
  refine OWp.evs 1 rfl ?_
  refine OWp.step rfl (Step.call rfl rfl rfl rfl rfl rfl ((publicLC (s := [97]) (i := 0) hks (by decide) (by decide) ?_)))
  rw [ex_priv, ex_pub]
  refine OWp.step rfl (Step.buildSlice rfl rfl rfl ?_); intro L13 hBL13 hLL13
  refine OWp.g rfl rfl (Gives.build rfl rfl) ?_
  refine OWp.step rfl (Step.buildSlice rfl rfl rfl ?_); intro L15 hBL15 hLL15
  refine OWp.step rfl (Step.call rfl rfl rfl rfl rfl rfl ((makeC (ps := [exPub]) (path := [xHop]) hks.cons.cons (Reads.row (k := 1) (sz := 1) (.tail _ (.head _)) (Nat.le_of_ble_eq_true rfl)) (by decide) (Reads.row (k := 1) (sz := 5) (.head _) (Nat.le_of_ble_eq_true rfl)) (by decide) (fun h => absurd (by rw [x_make]) h) ?_)))
  intro _ z es how
  rw [x_make] at how ⊢
  simp only at how ⊢
  obtain ⟨hb, ho, hcap, hll, ht, hfz, hzv, hhm, hhat⟩ := Reads.elem (f := HK.cells) (xs := [exKeys]) how.reads (fun _ _ => rfl) (by decide)
  subst hzv
  refine OWp.evs 7 rfl ?_
  refine OWp.nil ?_
  refine Wp.seq (Wp.region ?_)
  refine OWp.step rfl (Step.call rfl rfl rfl rfl rfl rfl ((privateC (s := [97]) (i := 0) hks.cons.cons.append (by decide) (by decide) ?_)))
  rw [ex_priv]
  refine OWp.evs 1 rfl ?_
  refine OWp.step rfl (Step.call rfl rfl rfl rfl rfl rfl ((peelC hks.cons.cons.append ?_)))
  rw [x_peel]
  refine OWp.evs 5 rfl ?_
  refine OWp.step rfl (Step.alloc rfl rfl rfl ?_); intro L5 hBL5 hLL5
  refine OWp.step rfl (Step.alloc rfl rfl rfl ?_); intro L7 hBL7 hLL7
  refine OWp.step rfl (Step.storeAs 1 (xHop.cells) rfl rfl rfl rfl rfl (by assumption) rfl (Unfz.zero _) rfl (Nat.le_of_ble_eq_true rfl) rfl rfl ?_)
  refine OWp.evs 1 rfl ?_
  refine OWp.step rfl (Step.storeAs 0 (exKeys.cells) rfl rfl rfl rfl rfl (by assumption) rfl (Unfz.zero _) rfl (Nat.le_of_ble_eq_true rfl) rfl rfl ?_)
  refine OWp.evs 1 rfl ?_
  refine OWp.nil ?_
  refine Wp.seq (Wp.regionDraw [0, 1, 2, 3, 4, 5, 6, 7, 8, 9, 10, 11, 12, 13, 14, 15, 16, 17, 18, 19, 20, 21, 22, 23, 24, 25, 26, 27, 28, 29, 30, 31, 32, 33, 34, 35, 36, 37, 38] [] rfl (by decide +kernel) ?_)
  refine DWp.evs 3 rfl ?_
  refine DWp.evs 5 rfl ?_
  refine DWp.part 35 rfl (fun cc1 => ?_) (fun cc1 => absurd (of_decide_eq_false cc1) (by decide +kernel))
  have cc1 := of_decide_eq_true cc1
  refine DWp.evs 5 rfl ?_
  refine DWp.evs 4 rfl ?_
  refine DWp.load (.tail _ (.head _)) rfl rfl rfl rfl rfl rfl rfl ?_
  refine DWp.g rfl rfl rfl rfl (Gives.build rfl rfl) ?_
  refine DWp.g rfl rfl rfl rfl (Gives.eqStruct (r := true) 10 rfl rfl rfl rfl hopG (hopSelf xHop)) ?_
  refine DWp.evs 2 rfl ?_
  refine DWp.evs 4 rfl ?_
  refine DWp.load (.head _) rfl rfl rfl rfl rfl rfl rfl ?_
  refine DWp.evs 1 rfl ?_
  refine DWp.g rfl rfl rfl rfl (Gives.indexAddrSlice (0) rfl rfl rfl rfl rfl rfl (by decide)) ?_
  refine DWp.load (.tail _ (.tail _ (List.mem_append_left _ hhm))) rfl rfl rfl rfl rfl rfl (partAt_agg (hhat 0 (by decide)) rfl rfl rfl) ?_
  refine DWp.g rfl rfl rfl rfl (Gives.eqStruct (r := true) 10 rfl rfl rfl rfl keyG (keySelf exKeys)) ?_
  refine DWp.evs 2 rfl ?_
  refine DWp.evs 1 rfl ?_
  refine DWp.load (.head _) rfl rfl rfl rfl rfl rfl rfl ?_
  refine DWp.evs 4 rfl ?_
  refine DWp.nil ?_
  refine Wp.ret ⟨trivial, _, ⟨_, _, rfl, rfl, rfl⟩, ?_⟩
  have h16 : exKeys.tag.length = 16 := by decide +kernel
  refine ⟨S, .cons _ (.cons _ ((List.Sublist.cons _ (.cons _ (.refl _))).trans (List.sublist_append_right _ _))), ?_⟩
  rw [show decide ((exKeys.tag.length : Int) = 16) = true by rw [h16]; rfl]
  exact H
end
end Go.Proofs.D
