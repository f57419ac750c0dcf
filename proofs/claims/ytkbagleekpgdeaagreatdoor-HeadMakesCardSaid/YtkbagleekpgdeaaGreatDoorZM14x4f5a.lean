/- What functions of the given program do, one after the other, told by that layer. -/
import Derived.Test.YtkbagleekpgdeaaGreatDoorZM12xb3fd
import Derived.Test.YtkbagleekpgdeaaGreatDoorZM9xc7d9
import Derived.Test.YtkbagleekpgdeaaGreatDoorEHeadW
import Derived.Test.YtkbagleekpgdeaaGreatDoorZHead
import Derived.Test.YtkbagleekpgdeaaGreatDoorRows
import Derived.LaidMore
import Derived.LaidHandle
import Derived.Lib.LaidTab
import Derived.Stop.LaidErr
import Derived.MakeChecks
import Derived.Test.YtkbagleekpgdeaaGreatDoorLgM3x97cf
import Derived.Test.YtkbagleekpgdeaaGreatDoorZM13x19d5
namespace Go.Proofs.D
open Go.Lg Go.Sha Go.Hd Go.Cv
open Go.Proofs.C (Hop hopP hopB parse pathE encB hopG)
set_option maxRecDepth 100000
theorem privByte (i : Nat) (hi : i < 1000) : IntKind.u8.wrap (IntKind.i64.wrap (48 + (i : Int))) = ((UInt8.ofNat (48 + i)).toNat : Int) := by
  rw [i64_id (by omega) (by omega), show (48 : Int) + (i : Int) = ((48 + i : Nat) : Int) by omega, u8_lo]
def xHop : Hop := ⟨4, 0, 0, 0, []⟩
theorem x_bytes : encB xHop = [4, 0, 0, 0, 0, 0, 0, 0, 0, 0, 0, 0, 0, 0, 0, 0, 0, 0, 0, 0, 0, 0, 0, 0] := by decide +kernel
theorem x_path : pathE [xHop] = 0 := by decide +kernel
theorem x_dec : decF [4, 0, 0, 0, 0, 0, 0, 0, 0, 0, 0, 0, 0, 0, 0, 0, 0, 0, 0, 0, 0, 0, 0, 0] = (xHop, 0) := by
  have h : hopP xHop ∧ hopB xHop = [4, 0, 0, 0, 0, 0, 0, 0, 0, 0, 0, 0, 0, 0, 0, 0, 0, 0, 0, 0, 0, 0, 0, 0] := by decide +kernel
  have e : parse true [4, 0, 0, 0, 0, 0, 0, 0, 0, 0, 0, 0, 0, 0, 0, 0, 0, 0, 0, 0, 0, 0, 0, 0] = xHop := by rfl
  unfold decF
  rw [e, if_pos h]
theorem x_make : makeR exSeed [exPub] [xHop] = (exHead, [exKeys], 0) := by
  unfold makeR
  rw [if_neg (fun h => h x_path), if_neg (by decide), if_neg (by decide), ex_hops, if_neg (by decide)]
  simp only [List.map_cons, List.map_nil, ex_keys, x_bytes, ex_head]
theorem x_peel : peelR exPriv exHead = (xHop, [], exKeys, 0) := by
  unfold peelR
  rw [if_neg (by decide), ex_back, if_neg (by decide), ex_keys, if_neg (fun h => h ex_mac)]
  unfold openR
  simp only
  rw [ex_open, x_dec, if_neg (by decide), if_pos (by decide)]
theorem keyG : Tryz.prog.eqGuardType Tryz.prog.depth 30 = false := by decide +kernel
def eqHK (x y : HK) : Bool := decide (x.flow = y.flow) && (decide (x.mac = y.mac) && (decide (x.body = y.body) && (decide (x.blind = y.blind) && (decide (x.tag = y.tag) && true))))
theorem eqHK_iff {x y : HK} : eqHK x y = true ↔ x = y := by
  obtain ⟨a, b, c, d, e⟩ := x
  obtain ⟨a', b', c', d', e'⟩ := y
  simp [eqHK]
theorem keyEq (x y : HK) : eqIn Tryz.prog 10 30 (.agg x.cells.toArray) (.agg y.cells.toArray) = some (eqHK x y) := by
  rfl
theorem keySelf (x : HK) : eqIn Tryz.prog 10 30 (.agg x.cells.toArray) (.agg x.cells.toArray) = some true := by rw [keyEq, eqHK_iff.2 rfl]
theorem hopSelf (x : Hop) : eqIn Tryz.prog 10 32 (.agg x.cells.toArray) (.agg x.cells.toArray) = some true := by
  have h : eqIn Tryz.prog 10 32 (.agg x.cells.toArray) (.agg x.cells.toArray) = some (C.eqHop x x) := by rfl
  rw [h, C.eqHop_iff.2 rfl]
attribute [local irreducible] derive hmac stream sharedR timesR makeR peelR exSeed exPriv exPub exSec exKeys exHead
section
variable {B : Nat} {S R : Ents} {Q : Value → Ents → Prop}
theorem privateC {s : List UInt8} {i : Nat} (hks : KsIn S) (hs : s.length + 1000 ≤ big) (hi : i < 1000) (H : Q (.string (str (privR s i))) S) : CallWp Tryz.prog B 41 #[.string (str s), .int .i64 (i : Int)] Q S := by
  refine CallWp.dropRet ?_
  refine CallWp.enter (args := [_, _]) Tryz.func41 rfl Tryz.ntmps41 rfl ?_
  refine Wp.seq (Wp.region ?_)
  refine OWp.evs 1 rfl ?_
  refine OWp.nil ?_
  refine Wp.seq (Wp.region ?_)
  refine OWp.evs 4 rfl ?_
  refine OWp.step rfl (Step.buildSlice rfl rfl rfl ?_); intro L hBL hLL
  refine OWp.gives rfl rfl (Gives.bytesToStr (F := (L, cel [.int .u8 (IntKind.u8.wrap (IntKind.i64.wrap (48 + (i : Int))))] 5) :: S) (l := [UInt8.ofNat (48 + i)]) (k := 1) rfl rfl rfl rfl rfl (one_byte (privByte i hi))) (fun _ h => h) ?_
  refine OWp.g rfl rfl (Gives.addStr rfl rfl rfl (by simp only [List.length_cons, List.length_nil]; omega)) ?_
  refine OWp.step rfl (Step.call rfl rfl rfl rfl rfl rfl ((deriveC (label := [112, 114, 105, 118, 97, 116, 101, UInt8.ofNat (48 + i)]) hks.cons (by decide) hs (by simp [big]) ?_)))
  refine OWp.evs 5 rfl ?_
  refine OWp.nil ?_
  refine Wp.seq (Wp.region ?_)
  refine OWp.evs 2 rfl ?_
  refine OWp.nil ?_
  refine Wp.ret ⟨trivial, _, ⟨_, _, rfl, rfl, rfl⟩, ?_⟩
  exact ⟨S, subl, H⟩
theorem publicLC {s : List UInt8} {i : Nat} (hks : KsIn S) (hs : s.length + 1000 ≤ big) (hi : i < 1000) (H : Q (.string (str (publicR (privR s i)).1)) S) : CallWp Tryz.prog B 42 #[.string (str s), .int .i64 (i : Int)] Q S := by
  refine CallWp.enter (args := [_, _]) Tryz.func42 rfl Tryz.ntmps42 rfl ?_
  refine Wp.seq (Wp.region ?_)
  refine OWp.evs 1 rfl ?_
  refine OWp.nil ?_
  refine Wp.seq (Wp.region ?_)
  refine OWp.evs 2 rfl ?_
  refine OWp.step rfl (Step.call rfl rfl rfl rfl rfl rfl ((privateC hks hs hi ?_)))
  refine OWp.step rfl (Step.call rfl rfl rfl rfl rfl rfl ((publicC ?_)))
  refine OWp.evs 5 rfl ?_
  refine OWp.nil ?_
  refine Wp.seq (Wp.region ?_)
  refine OWp.evs 2 rfl ?_
  refine OWp.nil ?_
  refine Wp.ret ⟨trivial, _, ⟨_, _, rfl, rfl, rfl⟩, ?_⟩
  exact H
set_option maxHeartbeats 4000000 in
theorem worksC (hks : KsIn S) (H : Q (.bool true) S) : CallWp Tryz.prog B 12 #[] Q S := by
  refine CallWp.dropRet ?_
  refine CallWp.enter (args := []) Tryz.func12 rfl Tryz.ntmps12 rfl ?_
  refine Wp.seq (Wp.region ?_)
  refine OWp.evs 1 rfl ?_
  refine OWp.nil ?_
  refine Wp.seq (Wp.region ?_)
  refine OWp.step rfl (Step.call rfl rfl rfl rfl rfl rfl ((privateC (s := [115, 101, 101, 100]) (i := 0) hks (by decide) (by decide) ?_)))
  rw [ex_seed]
  refine OWp.evs 1 rfl ?_
  refine OWp.nil ?_
  refine Wp.seq (Wp.region ?_)
  refine OWp.evs 1 rfl ?_
  refine OWp.step rfl (Step.call rfl rfl rfl rfl rfl rfl ((publicLC (s := [97]) (i := 0) hks (by decide) (by decide) ?_)))
  rw [ex_priv, ex_pub]
  refine OWp.step rfl (Step.buildSlice rfl rfl rfl ?_); intro L13 hBL13 hLL13
  refine OWp.g rfl rfl (Gives.build rfl rfl) ?_
  refine OWp.step rfl (Step.buildSlice rfl rfl rfl ?_); intro L15 hBL15 hLL15
  refine OWp.step rfl (Step.call rfl rfl rfl rfl rfl rfl ((makeC (ps := [exPub]) (path := [xHop]) hks.cons.cons (Reads.row (k := 1) (sz := 1) (.tail _ (.head _)) (Nat.le_of_ble_eq_true rfl)) (by decide) (Reads.row (k := 1) (sz := 5) (.head _) (Nat.le_of_ble_eq_true rfl)) (by decide) (fun h => absurd (by rw [x_make]) h) ?_)))
  intro _ z es how
  rw [x_make] at how ⊢
  simp only at how ⊢
  obtain ⟨hb, ho, hcap, hll, ht, hfz, hzv, hhm, hhat⟩ := Reads.elem (f := HK.cells) (xs := [exKeys]) how.reads (fun _ _ => rfl) (by decide)
  subst hzv
  refine OWp.evs 7 rfl ?_
  refine OWp.nil ?_
  refine Wp.seq (Wp.region ?_)
  refine OWp.step rfl (Step.call rfl rfl rfl rfl rfl rfl ((privateC (s := [97]) (i := 0) hks.cons.cons.append (by decide) (by decide) ?_)))
  rw [ex_priv]
  refine OWp.evs 1 rfl ?_
  refine OWp.step rfl (Step.call rfl rfl rfl rfl rfl rfl ((peelC hks.cons.cons.append ?_)))
  rw [x_peel]
  refine OWp.evs 5 rfl ?_
  refine OWp.step rfl (Step.alloc rfl rfl rfl ?_); intro L5 hBL5 hLL5
  refine OWp.step rfl (Step.alloc rfl rfl rfl ?_); intro L7 hBL7 hLL7
  refine OWp.step rfl (Step.storeAs 1 (xHop.cells) rfl rfl rfl rfl rfl (by assumption) rfl (Unfz.zero _) rfl (Nat.le_of_ble_eq_true rfl) rfl rfl ?_)
  refine OWp.evs 1 rfl ?_
  refine OWp.step rfl (Step.storeAs 0 (exKeys.cells) rfl rfl rfl rfl rfl (by assumption) rfl (Unfz.zero _) rfl (Nat.le_of_ble_eq_true rfl) rfl rfl ?_)
  refine OWp.evs 1 rfl ?_
  refine OWp.nil ?_
  refine Wp.seq (Wp.regionDraw [0, 1, 2, 3, 4, 5, 6, 7, 8, 9, 10, 11, 12, 13, 14, 15, 16, 17, 18, 19, 20, 21, 22, 23, 24, 25, 26, 27, 28, 29, 30, 31, 32, 33, 34, 35, 36, 37, 38] [] rfl (by decide +kernel) ?_)
  refine DWp.evs 3 rfl ?_
  refine DWp.evs 5 rfl ?_
  refine DWp.part 35 rfl (fun cc1 => ?_) (fun cc1 => absurd (of_decide_eq_false cc1) (by decide +kernel))
  have cc1 := of_decide_eq_true cc1
  refine DWp.evs 5 rfl ?_
  refine DWp.evs 4 rfl ?_
  refine DWp.load (.tail _ (.head _)) rfl rfl rfl rfl rfl rfl rfl ?_
  refine DWp.g rfl rfl rfl rfl (Gives.build rfl rfl) ?_
  refine DWp.g rfl rfl rfl rfl (Gives.eqStruct (r := true) 10 rfl rfl rfl rfl hopG (hopSelf xHop)) ?_
  refine DWp.evs 2 rfl ?_
  refine DWp.evs 4 rfl ?_
  refine DWp.load (.head _) rfl rfl rfl rfl rfl rfl rfl ?_
  refine DWp.evs 1 rfl ?_
  refine DWp.g rfl rfl rfl rfl (Gives.indexAddrSlice (0) rfl rfl rfl rfl rfl rfl (by decide)) ?_
  refine DWp.load (.tail _ (.tail _ (List.mem_append_left _ hhm))) rfl rfl rfl rfl rfl rfl (partAt_agg (hhat 0 (by decide)) rfl rfl rfl) ?_
  refine DWp.g rfl rfl rfl rfl (Gives.eqStruct (r := true) 10 rfl rfl rfl rfl keyG (keySelf exKeys)) ?_
  refine DWp.evs 2 rfl ?_
  refine DWp.evs 1 rfl ?_
  refine DWp.load (.head _) rfl rfl rfl rfl rfl rfl rfl ?_
  refine DWp.evs 4 rfl ?_
  refine DWp.nil ?_
  refine Wp.ret ⟨trivial, _, ⟨_, _, rfl, rfl, rfl⟩, ?_⟩
  have h16 : exKeys.tag.length = 16 := by decide +kernel
  refine ⟨S, .cons _ (.cons _ ((List.Sublist.cons _ (.cons _ (.refl _))).trans (List.sublist_append_right _ _))), ?_⟩
  rw [show decide ((exKeys.tag.length : Int) = 16) = true by rw [h16]; rfl]
  exact H
end
end Go.Proofs.D

/- The tables that the rows list: what they give to a walk, and a world in which they lie. -/
namespace Go.Proofs.D
open Go.Lg Go.Sha
set_option maxRecDepth 100000

def Laid : List (String × DataW Unit) := [("unicode/utf8.acceptRanges", YtkbagleekpgdeaaGreatDoor.Rows.laid_unicode_utf8_acceptRanges), ("dovecote/hash.ks", YtkbagleekpgdeaaGreatDoor.Rows.laid_dovecote_hash_ks), ("unicode/utf8.first", YtkbagleekpgdeaaGreatDoor.Rows.laid_unicode_utf8_first)]
def Laid1 : List (String × DataW Unit) := [("dovecote/hash.ks", YtkbagleekpgdeaaGreatDoor.Rows.laid_dovecote_hash_ks)]
def ksZ : List Int := ks.map fun (n : Nat) => (n : Int)
theorem ks_is : (YtkbagleekpgdeaaGreatDoor.Rows.laid_dovecote_hash_ks : DataW Unit) = Lib.tabData .u32 ksZ := by rfl
theorem ksZ_get (i : Nat) (h : i < 64) : ksZ.getD i 0 = ((ks.getD i 0 : Nat) : Int) := by
  have hl : i < ks.length := h
  unfold ksZ
  rw [List.getD_eq_getElem?_getD, List.getElem?_map, List.getD_eq_getElem?_getD, List.getElem?_eq_getElem hl]
  rfl
theorem ks_at {W : World} {r : List (String × DataW Unit)} (h : laidMet Tryz.prog (("dovecote/hash.ks", YtkbagleekpgdeaaGreatDoor.Rows.laid_dovecote_hash_ks) :: r) W) : KsIn (All W) := by
  rw [ks_is] at h
  have ht := Lib.tabIs_of_head (g := 1) (n := 64) (by kernel_rfl) (t := 209) (by kernel_rfl) Tryz.underlying209 Tryz.underlying131 (by kernel_rfl) (by kernel_rfl) h
  have hc : ∀ i, i < 64 → W.cell? ⟨1, i, none⟩ = some (.int .u32 (ks.getD i 0 : Nat)) := by
    intro i hi
    have := ht.cell (g := 1) (by kernel_rfl) i (by rw [show ksZ.length = 64 from rfl]; exact hi)
    rw [ksZ_get i hi] at this
    exact this
  have h0 := hc 0 (by decide)
  have : ∃ l e fz, W.heap[1]? = some (.cells l e fz) := by
    unfold World.cell? at h0
    split at h0
    · rename_i c0 e0 f0 hb; exact ⟨c0, e0, f0, hb⟩
    · simp at h0
  obtain ⟨l, e, fz, hl⟩ := this
  refine ⟨l.toList, e, fz, All.mem hl, fun i hi => ?_⟩
  have := hc i hi
  unfold World.cell? at this
  simp only [hl] at this
  simpa using this
theorem of_laid1 {W : World} (h : laidMetH Tryz.prog Laid1 W) : KsIn (All W) := by
  rw [MakeChecks.laidMetH_plain _ _ _ (by kernel_rfl)] at h
  exact ks_at h
noncomputable def laidWorld (os : Os) : World :=
  let w0 := World.doorLaid Tryz.prog 24 os
  { w0 with heap := w0.heap.modify 2 fun
      | .cells _ t frozen => .cells (Go.Pinned.utf8FirstZ.map fun (n : Nat) => Value.int .u8 (n : Int)).toArray t frozen
      | o => o }
theorem laid_met1 (os : Os) (args : Array Value) : laidMetH Tryz.prog Laid1 ((laidWorld os).forCall (fun _ _ => 0) ⟨#[], args, []⟩).memory :=
  laidMetH_of_parts3 (fuel := 8) (laidMet_of_run' 8 (by kernel_rfl) (by kernel_rfl)) (by kernel_rfl) (by kernel_rfl)
theorem laid_shaped (os : Os) (args : Array Value) : ((laidWorld os).forCall (fun _ _ => 0) ⟨#[], args, []⟩).Shaped Tryz.prog :=
  World.shaped_of_RefB (by kernel_rfl) (by kernel_rfl)
theorem rdStrB {S : Ents} {t : ByteArray} (h : Rd Tryz.prog S 9 [.string t]) : ∃ s : List UInt8, t = str s ∧ s.length + 5000 ≤ big := by
  obtain ⟨l, hl, hw⟩ := h.open_str Tryz.underlying9
  cases hl
  exact ⟨l, rfl, by unfold reachBytes at hw; unfold big; omega⟩
end Go.Proofs.D

namespace Go.Proofs.D
open Go.Lg Go.Sha
open Go.Proofs.C (Hop)
set_option maxRecDepth 100000
theorem rdHops {S : Ents} {v : Value} (h : Rd Tryz.prog S 23 [v]) : ∃ l : List Hop, Reads S 5 v l.length (l.flatMap Hop.cells) ∧ l.length ≤ 2932031007320 ∧ ∀ x ∈ l, x.id.length ≤ C.lim := by
  obtain ⟨l, hr, hw, _, hp⟩ := h.rows (f := Hop.cells) (p := fun x => x.id.length ≤ C.lim) Tryz.underlying23 (sz := 5) rfl (fun r hr => by
    obtain ⟨x, hx, hl⟩ := C.rdHopL hr
    exact ⟨x, hx, hl⟩)
  refine ⟨l, hr, ?_, hp⟩
  have : l.length * 48 ≤ reachBytes := hw
  unfold reachBytes at this; omega
end Go.Proofs.D

namespace Go.Proofs.D
open Go.Lg Go.Sha Go.Hd Go.Cv
open Go.Proofs.C (Hop hopG)
set_option maxRecDepth 100000
theorem strs_flat : ∀ l : List (List UInt8), l.flatMap (fun s : List UInt8 => [Value.string (str s)]) = strs l
  | [] => rfl
  | a :: l => by rw [List.flatMap_cons, strs_flat l]; rfl
theorem makeR_bad {seed : List UInt8} {ps : List (List UInt8)} {path : List Hop} (h : (makeR seed ps path).2.2 ≠ 0) : (makeR seed ps path).1 = [] ∧ (makeR seed ps path).2.1 = [] := by
  unfold makeR at h ⊢
  repeat' split
  all_goals first | exact ⟨rfl, rfl⟩ | (rename_i h1 h2 h3 h4; rw [if_neg h1, if_neg h2, if_neg h3, if_neg h4] at h; exact absurd rfl h)
theorem rdStrs {S : Ents} {v : Value} (h : Rd Tryz.prog S 22 [v]) : ∃ l : List (List UInt8), Reads S 1 v l.length (strs l) ∧ l.length ≤ 8796093022080 := by
  obtain ⟨l, hr, hw, _, _⟩ := h.rows (f := fun s : List UInt8 => [Value.string (str s)]) (p := fun _ => True) Tryz.underlying22 (sz := 1) rfl (fun r hr => by
    obtain ⟨s, hs, _⟩ := hr.open_str Tryz.underlying9
    exact ⟨s, hs, trivial⟩)
  have e : l.flatMap (fun s : List UInt8 => [Value.string (str s)]) = strs l := by
    exact strs_flat l
  rw [e] at hr
  refine ⟨l, hr, ?_⟩
  have : l.length * 16 ≤ reachBytes := hw
  unfold reachBytes at this; omega
theorem hops_one : ∀ l : List Hop, (l.flatMap Hop.cells).all (·.oneCell') = true
  | [] => rfl
  | x :: l => by rw [List.flatMap_cons, List.all_append, hops_one l]; rfl
theorem keys_len {seed : List UInt8} {ps : List (List UInt8)} {path : List Hop} (h : (makeR seed ps path).2.2 = 0) : (makeR seed ps path).2.1.length = path.length := by
  unfold makeR at h ⊢
  split at h
  · rename_i h1; exact absurd h h1
  · rename_i h1
    split at h
    · cases h
    · rename_i h2
      split at h
      · cases h
      · rename_i h3
        split at h
        · rename_i h4; exact absurd (Int.ofNat.inj h) h4
        · rename_i h4
          rw [if_neg h1, if_neg h2, if_neg h3, if_neg h4]
          simp only
          rw [List.length_map, (hopsGo_len _ _ (by simpa using h4)).1]
          simpa using h2
attribute [local irreducible] derive hmac stream sharedR timesR makeR peelR exSeed exPriv exPub exSec exKeys exHead
section
variable {B : Nat} {S R : Ents} {Q : Value → Ents → Prop}
set_option maxHeartbeats 4000000 in
theorem headMakesL {seed : List UInt8} {ps : List (List UInt8)} {path : List Hop} {v w : Value} (hks : KsIn S) (hr : Reads S 1 v ps.length (strs ps)) (hl : ps.length ≤ 8796093022080) (hr2 : Reads S 5 w path.length (path.flatMap Hop.cells)) (hl2 : path.length ≤ 2932031007320) : CallWp Tryz.prog B 3 #[.string (str seed), v, w] (fun v _ => v = .bool true) S := by
  obtain ⟨va, vc, rfl⟩ := hr.form
  obtain ⟨pa, pc, rfl⟩ := hr2.form
  refine CallWp.enter (args := [_, _, _]) Tryz.func3 rfl Tryz.ntmps3 rfl ?_
  refine Wp.seq (Wp.region ?_)
  refine OWp.evs 1 rfl ?_
  refine OWp.nil ?_
  refine Wp.seq (Wp.region ?_)
  refine OWp.step rfl (Step.buildSlice rfl rfl rfl ?_); intro L18 hBL18 hLL18
  refine OWp.evs 1 rfl ?_
  refine OWp.step rfl (Step.appendAt (es := [(L18, cel [] 9)]) (R := S) [] rfl rfl rfl rfl rfl rfl (by decide) rfl rfl (Own.row (k := 0) (sz := 1) (xs := []) hBL18 rfl (by decide)) (hr.mono fun x hx => .tail _ hx) (strs_one ps) (by show (0 + ps.length) * 16 ≤ _; omega) (by unfold maxLen; omega) ?_)
  intro v1 e1 ho1 _
  rw [Nat.zero_add, List.nil_append] at ho1
  have ho1 : Lg.Own B 9 1 v1 ps.length (strs ps) e1 := ho1
  refine OWp.step rfl (Step.buildSlice rfl rfl rfl ?_); intro L21 hBL21 hLL21
  refine OWp.evs 1 rfl ?_
  refine OWp.step rfl (Step.appendAt (es := [(L21, cel [] 32)]) (R := e1 ++ S) [] rfl rfl rfl rfl rfl rfl (by decide) rfl rfl (Own.row (k := 0) (sz := 5) (xs := []) hBL21 rfl (by decide)) (hr2.mono fun x hx => .tail _ (List.mem_append_right e1 hx)) (hops_one path) (by show (0 + path.length) * 48 ≤ _; omega) (by unfold maxLen; omega) ?_)
  intro v2 e2 ho2 _
  rw [Nat.zero_add, List.nil_append] at ho2
  have ho2 : Lg.Own B 32 5 v2 path.length (path.flatMap Hop.cells) e2 := ho2
  refine OWp.evs 2 rfl ?_
  refine OWp.nil ?_
  rw [List.nil_append]
  obtain ⟨a1, c1, rfl⟩ := ho1.reads.form
  obtain ⟨a2, c2, rfl⟩ := ho2.reads.form
  obtain ⟨hd, hhd⟩ : ∃ x, x = (makeR seed ps path).1 := ⟨_, rfl⟩
  obtain ⟨K, hK⟩ : ∃ x, x = (makeR seed ps path).2.1 := ⟨_, rfl⟩
  obtain ⟨E, hE⟩ : ∃ x, x = (makeR seed ps path).2.2 := ⟨_, rfl⟩
  have hkz : E = 0 → K.length = path.length := fun h => by rw [hK]; exact keys_len (by omega)
  have hbz : E ≠ 0 → hd = [] ∧ K = [] := fun h => by rw [hhd, hK]; exact makeR_bad (by omega)
  refine Wp.seqS (α := Value × Ents) (fun z => [(0, .string (str seed)), (1, .slice va ps.length vc), (2, .slice pa path.length pc), (7, .slice a1 ps.length c1), (8, .slice a2 path.length c2), (9, .string (str hd)), (10, z.1), (11, .int .i64 E)]) (fun z => z.2 ++ (e2 ++ (e1 ++ S))) (fun z => Lg.Own B 30 5 z.1 K.length (keysV K) z.2) ?_ ?_
  · skip
    refine Wp.region ?_
    by_cases h0 : E ≠ 0
    · skip
      refine OWp.evs 3 rfl ?_
      refine OWp.step rfl (Step.call rfl rfl rfl rfl rfl rfl ((makeC (ps := ps) (path := path) hks.append.append (ho1.reads.mono fun x hx => List.mem_append_right _ (List.mem_append_left _ hx)) (by omega) (ho2.reads.mono fun x hx => List.mem_append_left _ hx) hl2 (fun _ => ?_) (fun h => absurd h (hE ▸ h0)))))
      obtain ⟨z1, z2⟩ := hbz h0
      rw [← hE]
      refine OWp.evs 7 rfl ?_
      refine OWp.nil ?_
      exact ⟨(.slice none 0 0, []), by rw [z2]; exact Own.nil _ _ _, .cons rfl (.cons rfl (.cons rfl (.cons rfl (.cons rfl (.cons' rfl (by rw [z1]) (.cons rfl (.cons rfl (.nil _)))))))), .refl _⟩
    have h0' : E = 0 := by omega
    refine OWp.evs 3 rfl ?_
    refine OWp.step rfl (Step.call rfl rfl rfl rfl rfl rfl ((makeC (ps := ps) (path := path) hks.append.append (ho1.reads.mono fun x hx => List.mem_append_right _ (List.mem_append_left _ hx)) (by omega) (ho2.reads.mono fun x hx => List.mem_append_left _ hx) hl2 (fun h => absurd (hE ▸ h0') h) ?_)))
    intro _ z es how
    rw [← hhd]
    rw [← hK, ← hkz h0'] at how
    refine OWp.evs 7 rfl ?_
    refine OWp.nil ?_
    exact ⟨(z, es), how, .cons rfl (.cons rfl (.cons rfl (.cons rfl (.cons rfl (.cons rfl (.cons rfl (.cons' rfl (by rw [h0']) (.nil _)))))))), .refl _⟩
  rintro ⟨z1, e3⟩ ho3
  simp only at ho3 ⊢
  refine Wp.seqS (α := Value × Ents) (fun z => [(1, .slice va ps.length vc), (2, .slice pa path.length pc), (7, .slice a1 ps.length c1), (8, .slice a2 path.length c2), (9, .string (str hd)), (10, z1), (11, .int .i64 E), (12, .string (str hd)), (13, z.1), (14, .int .i64 E)]) (fun z => z.2 ++ (e3 ++ (e2 ++ (e1 ++ S)))) (fun z => Lg.Own B 30 5 z.1 K.length (keysV K) z.2) ?_ ?_
  · skip
    refine Wp.region ?_
    by_cases h0 : E ≠ 0
    · skip
      refine OWp.evs 3 rfl ?_
      refine OWp.step rfl (Step.call rfl rfl rfl rfl rfl rfl ((rmakeC (ps := ps) (path := path) (hr.mono fun x hx => List.mem_append_right _ (List.mem_append_right _ (List.mem_append_right _ hx))) (hr2.mono fun x hx => List.mem_append_right _ (List.mem_append_right _ (List.mem_append_right _ hx))) hl2 (fun _ => ?_) (fun h => absurd h (hE ▸ h0)))))
      obtain ⟨y1, y2⟩ := hbz h0
      rw [← hE]
      refine OWp.evs 7 rfl ?_
      refine OWp.nil ?_
      exact ⟨(.slice none 0 0, []), by rw [y2]; exact Own.nil _ _ _, .cons rfl (.cons rfl (.cons rfl (.cons rfl (.cons rfl (.cons rfl (.cons rfl (.cons' rfl (by rw [y1]) (.cons rfl (.cons rfl (.nil _)))))))))), .refl _⟩
    have h0' : E = 0 := by omega
    refine OWp.evs 3 rfl ?_
    refine OWp.step rfl (Step.call rfl rfl rfl rfl rfl rfl ((rmakeC (ps := ps) (path := path) (hr.mono fun x hx => List.mem_append_right _ (List.mem_append_right _ (List.mem_append_right _ hx))) (hr2.mono fun x hx => List.mem_append_right _ (List.mem_append_right _ (List.mem_append_right _ hx))) hl2 (fun h => absurd (hE ▸ h0') h) ?_)))
    intro _ z es how
    rw [← hhd]
    rw [← hK, ← hkz h0'] at how
    refine OWp.evs 7 rfl ?_
    refine OWp.nil ?_
    exact ⟨(z, es), how, .cons rfl (.cons rfl (.cons rfl (.cons rfl (.cons rfl (.cons rfl (.cons rfl (.cons rfl (.cons rfl (.cons' rfl (by rw [h0']) (.nil _)))))))))), .refl _⟩
  rintro ⟨z2, e4⟩ ho4
  simp only at ho4 ⊢
  obtain ⟨a3, c3, rfl⟩ := ho3.reads.form
  obtain ⟨a4, c4, rfl⟩ := ho4.reads.form
  refine Wp.seq ?_
  refine Wp.seq (Wp.region ?_)
  refine OWp.evs 4 rfl ?_
  refine OWp.part 43 rfl (fun cc1 => absurd (ndT cc1) (by simp)) (fun cc1 => ?_)
  have cc1 := ndF cc1
  refine OWp.evs 5 rfl ?_
  refine OWp.part 48 rfl (fun cc2 => absurd (ndT cc2) (by simp)) (fun cc2 => ?_)
  have cc2 := ndF cc2
  refine OWp.evs 6 rfl ?_
  refine OWp.nil ?_
  refine Wp.cond rfl (fun cc3 => absurd (ndT cc3) (by simp)) (fun cc3 => ?_)
  have cc3 := ndF cc3
  have hKl : K.length ≤ 2932031007320 := by
    by_cases h0 : E ≠ 0
    · rw [(hbz h0).2]; decide
    · rw [hkz (by omega)]; exact hl2
  refine Wp.skip ?_
  refine Wp.seq ?_
  refine Wp.seq (Wp.region ?_)
  refine OWp.evs 1 rfl ?_
  refine OWp.nil ?_
  refine Wp.block ?_
  refine Wp.loopS (α := Nat) (fun i => K.length - i) (fun i => [(1, .slice va ps.length vc), (2, .slice pa path.length pc), (7, .slice a1 ps.length c1), (8, .slice a2 path.length c2), (10, .slice a3 K.length c3), (13, .slice a4 K.length c4), (15, .int .i64 (i : Int))]) (fun _ => e4 ++ (e3 ++ (e2 ++ (e1 ++ S)))) (fun i => i ≤ K.length) 0 ?_ (.refl _) (Nat.zero_le _) ?_
  · exact .cons rfl (.cons rfl (.cons rfl (.cons rfl (.cons rfl (.cons rfl (.cons rfl (.nil _)))))))
  rintro i hi
  refine Wp.seq ?_
  refine Wp.seq (Wp.region ?_)
  refine OWp.evs 4 rfl ?_
  refine OWp.nil ?_
  refine Wp.cond rfl (fun h1 => ?_) (fun h1 => ?_)
  · have h1 := of_decide_eq_true h1
    have hi1 : i < K.length := by omega
    obtain ⟨b3, o3, p3, l3, t3, f3, hv3, hm3, hat3⟩ := keys_elem ho3.reads (by omega)
    obtain ⟨b4, o4, p4, l4, t4, f4, hv4, hm4, hat4⟩ := keys_elem ho4.reads (by omega)
    cases hv3
    cases hv4
    refine Wp.skip ?_
    refine Wp.seq ?_
    refine Wp.block ?_
    refine Wp.seq (Wp.regionDraw [0, 1, 2, 3, 4, 5, 6, 7, 8] [] rfl (by decide +kernel) ?_)
    refine DWp.evs 2 rfl ?_
    refine DWp.g rfl rfl rfl rfl (Gives.indexAddrSlice (i) rfl rfl rfl rfl rfl rfl (by omega)) ?_
    refine DWp.load (List.mem_append_right _ (List.mem_append_left _ hm3)) rfl rfl rfl rfl rfl rfl (partAt_agg (hat3 i hi1) rfl rfl rfl) ?_
    refine DWp.evs 2 rfl ?_
    refine DWp.g rfl rfl rfl rfl (Gives.indexAddrSlice (i) rfl rfl rfl rfl rfl rfl (by omega)) ?_
    refine DWp.load (List.mem_append_left _ hm4) rfl rfl rfl rfl rfl rfl (partAt_agg (hat4 i hi1) rfl rfl rfl) ?_
    refine DWp.g rfl rfl rfl rfl (Gives.neqStruct (r := true) 10 rfl rfl rfl rfl keyG (keySelf K[i])) ?_
    refine DWp.nil ?_
    refine Wp.cond rfl (fun c => nomatch c) (fun _ => ?_)
    refine Wp.skip ?_
    refine Wp.region ?_
    refine OWp.evs 3 rfl ?_
    refine OWp.nil ?_
    exact ⟨i + 1, by omega, by omega, .cons rfl (.cons rfl (.cons rfl (.cons rfl (.cons rfl (.cons rfl (.cons' rfl (int_eq (by rw [i64_id] <;> omega)) (.nil _))))))), .refl _⟩
  have h1 := of_decide_eq_false h1
  refine Wp.exit ?_
  refine Wp.seq ?_
  refine Wp.seq (Wp.region ?_)
  refine OWp.evs 1 rfl ?_
  refine OWp.nil ?_
  refine Wp.block ?_
  refine Wp.loopS (α := Nat) (fun i => ps.length - i) (fun i => [(1, .slice va ps.length vc), (2, .slice pa path.length pc), (7, .slice a1 ps.length c1), (8, .slice a2 path.length c2), (10, .slice a3 K.length c3), (13, .slice a4 K.length c4), (16, .int .i64 (i : Int))]) (fun _ => e4 ++ (e3 ++ (e2 ++ (e1 ++ S)))) (fun i => i ≤ ps.length) 0 ?_ (.refl _) (Nat.zero_le _) ?_
  · exact .cons rfl (.cons rfl (.cons rfl (.cons rfl (.cons rfl (.cons rfl (.cons rfl (.nil _)))))))
  rintro j hj
  refine Wp.seq ?_
  refine Wp.seq (Wp.region ?_)
  refine OWp.evs 4 rfl ?_
  refine OWp.nil ?_
  refine Wp.cond rfl (fun h2 => ?_) (fun h2 => ?_)
  · have h2 := of_decide_eq_true h2
    have hj1 : j < ps.length := by omega
    obtain ⟨b3, o3, p3, l3, t3, f3, hv3, hm3, _, hg3⟩ := ho1.reads.get1 (by omega)
    obtain ⟨b4, o4, p4, l4, t4, f4, hv4, hm4, _, hg4⟩ := hr.get1 (by omega)
    cases hv3
    cases hv4
    have hgi : l3[o3 + j * 1]? = some (.string (str ps[j])) := by rw [hg3 j hj1]; exact strs_at hj1
    have hgi4 : l4[o4 + j * 1]? = some (.string (str ps[j])) := by rw [hg4 j hj1]; exact strs_at hj1
    refine Wp.skip ?_
    refine Wp.seq ?_
    refine Wp.block ?_
    refine Wp.seq (Wp.regionDraw [0, 1, 2, 3, 4, 5, 6, 7, 8] [] rfl (by decide +kernel) ?_)
    refine DWp.evs 2 rfl ?_
    refine DWp.g rfl rfl rfl rfl (Gives.indexAddrSlice (j) rfl rfl rfl rfl rfl rfl (by omega)) ?_
    refine DWp.load (List.mem_append_right _ (List.mem_append_right _ (List.mem_append_right _ (List.mem_append_left _ hm3)))) rfl rfl rfl rfl rfl rfl hgi ?_
    refine DWp.evs 2 rfl ?_
    refine DWp.g rfl rfl rfl rfl (Gives.indexAddrSlice (j) rfl rfl rfl rfl rfl rfl (by omega)) ?_
    refine DWp.load (List.mem_append_right _ (List.mem_append_right _ (List.mem_append_right _ (List.mem_append_right _ hm4)))) rfl rfl rfl rfl rfl rfl hgi4 ?_
    refine DWp.evs 1 rfl ?_
    refine DWp.nil ?_
    refine Wp.cond rfl (fun cc4 => absurd (ndT cc4) (by simp)) (fun cc4 => ?_)
    have cc4 := ndF cc4
    refine Wp.skip ?_
    refine Wp.region ?_
    refine OWp.evs 3 rfl ?_
    refine OWp.nil ?_
    exact ⟨j + 1, by omega, by omega, .cons rfl (.cons rfl (.cons rfl (.cons rfl (.cons rfl (.cons rfl (.cons' rfl (int_eq (by rw [i64_id] <;> omega)) (.nil _))))))), .refl _⟩
  have h2 := of_decide_eq_false h2
  refine Wp.exit ?_
  refine Wp.seq ?_
  refine Wp.seq (Wp.region ?_)
  refine OWp.evs 1 rfl ?_
  refine OWp.nil ?_
  refine Wp.block ?_
  refine Wp.loopS (α := Nat) (fun i => path.length - i) (fun i => [(1, .slice va ps.length vc), (2, .slice pa path.length pc), (7, .slice a1 ps.length c1), (8, .slice a2 path.length c2), (10, .slice a3 K.length c3), (13, .slice a4 K.length c4), (17, .int .i64 (i : Int))]) (fun _ => e4 ++ (e3 ++ (e2 ++ (e1 ++ S)))) (fun i => i ≤ path.length) 0 ?_ (.refl _) (Nat.zero_le _) ?_
  · exact .cons rfl (.cons rfl (.cons rfl (.cons rfl (.cons rfl (.cons rfl (.cons rfl (.nil _)))))))
  rintro k hk
  refine Wp.seq ?_
  refine Wp.seq (Wp.region ?_)
  refine OWp.evs 4 rfl ?_
  refine OWp.nil ?_
  refine Wp.cond rfl (fun h3 => ?_) (fun h3 => ?_)
  · have h3 := of_decide_eq_true h3
    have hk1 : k < path.length := by omega
    obtain ⟨b3, o3, p3, l3, t3, f3, hv3, hm3, hat3⟩ := Reads.elem (sz := 5) ho2.reads (C.hop_flat _) (by omega)
    obtain ⟨b4, o4, p4, l4, t4, f4, hv4, hm4, hat4⟩ := Reads.elem (sz := 5) hr2 (C.hop_flat _) (by omega)
    cases hv3
    cases hv4
    refine Wp.skip ?_
    refine Wp.seq ?_
    refine Wp.block ?_
    refine Wp.seq (Wp.regionDraw [0, 1, 2, 3, 4, 5, 6, 7, 8] [] rfl (by decide +kernel) ?_)
    refine DWp.evs 2 rfl ?_
    refine DWp.g rfl rfl rfl rfl (Gives.indexAddrSlice (k) rfl rfl rfl rfl rfl rfl (by omega)) ?_
    refine DWp.load (List.mem_append_right _ (List.mem_append_right _ (List.mem_append_left _ hm3))) rfl rfl rfl rfl rfl rfl (partAt_agg (hat3 k hk1) rfl rfl rfl) ?_
    refine DWp.evs 2 rfl ?_
    refine DWp.g rfl rfl rfl rfl (Gives.indexAddrSlice (k) rfl rfl rfl rfl rfl rfl (by omega)) ?_
    refine DWp.load (List.mem_append_right _ (List.mem_append_right _ (List.mem_append_right _ (List.mem_append_right _ hm4)))) rfl rfl rfl rfl rfl rfl (partAt_agg (hat4 k hk1) rfl rfl rfl) ?_
    refine DWp.g rfl rfl rfl rfl (Gives.neqStruct (r := true) 10 rfl rfl rfl rfl hopG (hopSelf path[k])) ?_
    refine DWp.nil ?_
    refine Wp.cond rfl (fun c => nomatch c) (fun _ => ?_)
    refine Wp.skip ?_
    refine Wp.region ?_
    refine OWp.evs 3 rfl ?_
    refine OWp.nil ?_
    exact ⟨k + 1, by omega, by omega, .cons rfl (.cons rfl (.cons rfl (.cons rfl (.cons rfl (.cons rfl (.cons' rfl (int_eq (by rw [i64_id] <;> omega)) (.nil _))))))), .refl _⟩
  have h3 := of_decide_eq_false h3
  refine Wp.exit ?_
  refine Wp.seq (Wp.region ?_)
  refine OWp.step rfl (Step.call rfl rfl rfl rfl rfl rfl ((worksC hks.append.append.append.append ?_)))
  refine OWp.evs 1 rfl ?_
  refine OWp.nil ?_
  refine Wp.ret ⟨trivial, _, ⟨_, _, rfl, rfl, rfl⟩, ?_⟩
  rfl
theorem headMakesW {t1 : ByteArray} {a1 a2 : Option Addr} {len1 cap1 len2 cap2 : Nat} (hks : KsIn S) (h1 : Rd Tryz.prog S 9 [.string t1]) (h2 : Rd Tryz.prog S 22 [.slice a1 len1 cap1]) (h3 : Rd Tryz.prog S 23 [.slice a2 len2 cap2]) : CallWp Tryz.prog B 3 #[.string t1, .slice a1 len1 cap1, .slice a2 len2 cap2] (fun v _ => v = .bool true) S := by
  obtain ⟨s1, rfl, _⟩ := rdStrB h1
  obtain ⟨ps, hp, hpl⟩ := rdStrs h2
  obtain ⟨l, hl, hm, _⟩ := rdHops h3
  exact headMakesL hks hp hpl hl hm
end
end Go.Proofs.D
