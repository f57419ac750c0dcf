/- What functions of the given program do, one after the other, told by that layer. -/
import Derived.Test.YtkbagleekpgdeaaGreatDoorZCur3
import Derived.Test.YtkbagleekpgdeaaGreatDoorZM10x9e4f
import Derived.Test.YtkbagleekpgdeaaGreatDoorZM12xe059
import Derived.Test.YtkbagleekpgdeaaGreatDoorEHeadL
import Derived.Test.YtkbagleekpgdeaaGreatDoorZM6xf9cb
namespace Go.Proofs.D
open Go.Lg Go.Sha Go.Hd Go.Cv
open Go.Proofs.C (Hop hopP hopB parse pathE encB)
set_option maxRecDepth 100000
attribute [local irreducible] derive hmac stream chainR
section
variable {B : Nat} {S R : Ents} {Q : Value → Ents → Prop}
theorem rofC {s : List UInt8} (hs : s.length + 2000 ≤ big) (H : Q (.agg (keysOf s).cells.toArray) S) : CallWp Tryz.prog B 49 #[.string (str s)] Q S := by
  refine CallWp.dropRet ?_
  refine CallWp.enter (args := [_]) Tryz.func49 rfl Tryz.ntmps49 rfl ?_
  refine Wp.seq (Wp.region ?_)
  refine OWp.step rfl (Step.alloc rfl rfl rfl ?_); intro L2 hBL2 hLL2
  refine OWp.nil ?_
  refine Wp.seq (Wp.region ?_)
  refine OWp.evs 1 rfl ?_
  refine OWp.step rfl (Step.call rfl rfl rfl rfl rfl rfl ((rkeyC (n := 32) (by decide) hs (by decide) ?_)))
  refine OWp.evs 1 rfl ?_
  refine OWp.step rfl (Step.call rfl rfl rfl rfl rfl rfl ((rkeyC (n := 32) (by decide) hs (by decide) ?_)))
  refine OWp.evs 1 rfl ?_
  refine OWp.step rfl (Step.call rfl rfl rfl rfl rfl rfl ((rkeyC (n := 32) (by decide) hs (by decide) ?_)))
  refine OWp.evs 1 rfl ?_
  refine OWp.step rfl (Step.call rfl rfl rfl rfl rfl rfl ((rkeyC (n := 32) (by decide) hs (by decide) ?_)))
  refine OWp.evs 1 rfl ?_
  refine OWp.step rfl (Step.call rfl rfl rfl rfl rfl rfl ((rkeyC (n := 16) (by decide) hs (by decide) ?_)))
  refine OWp.g rfl rfl (Gives.build rfl rfl) ?_
  refine OWp.step rfl (Step.storeAs 0 ((keysOf s).cells) rfl rfl rfl rfl rfl (by assumption) rfl (Unfz.zero _) rfl (Nat.le_of_ble_eq_true rfl) rfl rfl ?_)
  refine OWp.nil ?_
  refine Wp.ret ⟨trivial, _, ⟨_, _, _, _, rfl, rfl, ⟨_, _, _, mems, (by first | assumption | rfl)⟩, rfl⟩, ?_⟩
  exact ⟨S, subl, H⟩
theorem rzerosC {n : Nat} (hn : n ≤ 65536) (H : Q (.string (str (List.replicate n 0))) S) : CallWp Tryz.prog B 34 #[.int .i64 (n : Int)] Q S := by
  refine CallWp.dropRet ?_
  refine CallWp.enter (args := [_]) Tryz.func34 rfl Tryz.ntmps34 rfl ?_
  refine Wp.seq (Wp.region ?_)
  refine OWp.evs 1 rfl ?_
  refine OWp.nil ?_
  refine Wp.seq (Wp.region ?_)
  refine OWp.evs 1 rfl ?_
  refine OWp.step rfl (Step.makeSlice (len := n) (cap := n) rfl rfl rfl rfl rfl rfl (by decide) rfl rfl (Nat.le_refl _) (by show 1 * n ≤ _; omega) (by omega) ?_)
  intro L hBL _
  have ez : zeros (cellsOf (Value.int .u8 0)) n = byteCells (List.replicate n 0) ++ [] := by rw [List.append_nil]; exact zeros_u8 n
  rw [ez]
  refine OWp.gives rfl rfl (Gives.bytesToStr (F := (L, cel (byteCells (List.replicate n 0) ++ []) 5) :: S) (l := (List.replicate n 0)) (k := n) rfl rfl rfl rfl rfl (reads_bytes (by simp))) (fun _ h => h) ?_
  refine OWp.evs 1 rfl ?_
  refine OWp.nil ?_
  refine Wp.ret ⟨trivial, _, ⟨_, _, rfl, rfl, rfl⟩, ?_⟩
  exact ⟨S, subl, H⟩
theorem rflowC {k : HK} (hk : k.flow.length = 32) (H : Q (.string (str (fl k))) S) : CallWp Tryz.prog B 37 #[.agg k.cells.toArray] Q S := by
  refine CallWp.dropRet ?_
  refine CallWp.enter (args := [_]) Tryz.func37 rfl Tryz.ntmps37 rfl ?_
  refine Wp.seq (Wp.region ?_)
  refine OWp.step rfl (Step.box rfl rfl rfl ?_); intro L1 hBL1 hLL1
  refine OWp.evs 1 rfl ?_
  refine OWp.nil ?_
  refine Wp.seq (Wp.regionDraw [0, 1, 2, 3, 4, 5] [2, 4] rfl (by decide +kernel) ?_)
  refine DWp.evs 1 rfl ?_
  refine DWp.load (.head _) rfl rfl rfl rfl rfl rfl rfl ?_
  refine DWp.stepGrow rfl rfl rfl (Step.makeSlice (len := 12) (cap := 12) rfl rfl rfl rfl rfl rfl (by decide) rfl rfl (Nat.le_refl _) (by decide) (by decide) ?_)
  intro L2 hBL2 _
  refine ⟨fun _ hy => .tail _ hy, ?_⟩
  have ez : zeros (cellsOf (Value.int .u8 0)) 12 = byteCells zeros12 ++ [] := by rw [List.append_nil]; exact zeros_u8 12
  rw [ez]
  refine DWp.gives rfl rfl rfl rfl (Gives.bytesToStr (F := (L2, cel (byteCells zeros12 ++ []) 5) :: (L1, cel k.cells 30) :: S) (l := zeros12) (k := 12) rfl rfl rfl rfl rfl (reads_bytes (by decide))) (fun _ h => h) ?_
  refine DWp.stepGrow rfl rfl rfl (Step.call rfl rfl rfl rfl rfl rfl ((rstreamC (n := 240) hk (by decide) (by decide) (by decide) ?_)))
  refine ⟨fun _ hy => hy, ?_⟩
  refine DWp.evs 1 rfl ?_
  refine DWp.nil ?_
  refine Wp.ret ⟨trivial, _, ⟨_, _, rfl, rfl, rfl⟩, ?_⟩
  exact ⟨S, subl, H⟩
theorem rmacC {k : HK} {l : List UInt8} (hk : k.mac.length = 32) (hl : l.length + 2000 ≤ big) (H : Q (.string (str (macX k l))) S) : CallWp Tryz.prog B 39 #[.agg k.cells.toArray, .string (str l)] Q S := by
  refine CallWp.dropRet ?_
  refine CallWp.enter (args := [_, _]) Tryz.func39 rfl Tryz.ntmps39 rfl ?_
  refine Wp.seq (Wp.region ?_)
  refine OWp.step rfl (Step.box rfl rfl rfl ?_); intro L1 hBL1 hLL1
  refine OWp.evs 1 rfl ?_
  refine OWp.nil ?_
  refine Wp.seq (Wp.region ?_)
  refine OWp.evs 1 rfl ?_
  refine OWp.load (.head _) rfl rfl rfl rfl rfl ?_
  refine OWp.evs 1 rfl ?_
  refine OWp.step rfl (Step.call rfl rfl rfl rfl rfl rfl ((rtagC (by rw [hk]; decide) hl ?_)))
  refine OWp.g rfl rfl (Gives.sliceStr (l := 0) (h' := 16) rfl rfl rfl rfl ⟨_, _, rfl, rfl⟩ (by decide) (by rw [hmac_len]; decide)) ?_
  refine OWp.evs 1 rfl ?_
  refine OWp.nil ?_
  refine Wp.ret ⟨trivial, _, ⟨_, _, rfl, rfl, rfl⟩, ?_⟩
  exact ⟨S, subl, H⟩
theorem keys_elem {S : Ents} {ks : List HK} {v : Value} (hr : Reads S 5 v ks.length (keysV ks)) (h0 : 0 < ks.length) : ∃ hb ho hcap hll ht hfz, v = .slice (some ⟨hb, ho, none⟩) ks.length hcap ∧ (hb, cel hll ht hfz) ∈ S ∧ ∀ i (h : i < ks.length), (hll.drop (ho + i * 5)).take 5 = (ks[i]).cells := by
  obtain ⟨hb, ho, hcap, hll, ht, hfz, hzv, hhm, hat⟩ := Reads.elem (sz := 5) (f := HK.cells) (xs := ks) hr (fun _ _ => rfl) h0
  exact ⟨hb, ho, hcap, hll, ht, hfz, hzv, hhm, hat⟩
end
end Go.Proofs.D

namespace Go.Proofs.D
open Go.Lg Go.Sha Go.Hd Go.Cv
open Go.Proofs.C (Hop hopP hopB parse pathE encB)
set_option maxRecDepth 100000
attribute [local irreducible] derive hmac stream chainR
section
variable {B : Nat} {S R : Ents} {Q : Value → Ents → Prop}
end
end Go.Proofs.D

namespace Go.Proofs.D
open Go.Lg Go.Sha Go.Hd Go.Cv
open Go.Proofs.C (Hop hopP hopB parse pathE encB)
set_option maxRecDepth 100000
attribute [local irreducible] derive hmac stream chainR sharedR timesR
section
variable {B : Nat} {S R : Ents} {Q : Value → Ents → Prop}
theorem rdecodeF {b : List UInt8} (hb : b.length = 24) (H : Q (.tuple #[.agg (decF b).1.cells.toArray, .int .i64 (decF b).2]) S) : CallWp Tryz.prog B 50 #[.string (str b)] Q S := by
  refine C.rdecodeC hb ⟨fun x hx he => ?_, fun hn => ?_⟩
  · have e : parse true b = x := by rw [← he]; exact C.parse_hopB hx true
    unfold decF at H
    rw [e, if_pos ⟨hx, he⟩] at H
    exact H
  · unfold decF at H
    rw [if_neg (fun h => hn _ h.1 h.2)] at H
    exact H
set_option maxHeartbeats 4000000 in
theorem rpeelC {priv header : List UInt8} (H : Q (.tuple #[.agg (peelR priv header).1.cells.toArray, .string (str (peelR priv header).2.1), .agg (peelR priv header).2.2.1.cells.toArray, .int .i64 (peelR priv header).2.2.2]) S) : CallWp Tryz.prog B 14 #[.string (str priv), .string (str header)] Q S := by
  refine CallWp.dropRet ?_
  refine CallWp.enter (args := [_, _]) Tryz.func14 rfl Tryz.ntmps14 rfl ?_
  refine Wp.seq (Wp.region ?_)
  refine OWp.step rfl (Step.alloc rfl rfl rfl ?_); intro L4 hBL4 hLL4
  refine OWp.evs 1 rfl ?_
  refine OWp.step rfl (Step.alloc rfl rfl rfl ?_); intro L6 hBL6 hLL6
  by_cases hp32 : priv.length = 32
  · skip
    refine OWp.evs 1 rfl ?_
    refine OWp.nil ?_
    refine Wp.seq ?_
    refine Wp.seq (Wp.region ?_)
    refine OWp.evs 4 rfl ?_
    refine OWp.part 21 rfl (fun cc1 => absurd (ndT cc1) (by omega)) (fun cc1 => ?_)
    have cc1 := ndF cc1
    refine OWp.evs 4 rfl ?_
    refine OWp.nil ?_
    refine Wp.cond rfl (fun h2 => ?_) (fun h2 => ?_)
    · have h2 := ndT h2
      have hE : peelR priv header = (Hop.zero, [], HK.zero, 3) := by unfold peelR; rw [if_pos (by omega)]
      rw [hE] at H
      refine Wp.seq (Wp.region ?_)
      refine OWp.g rfl rfl (Gives.build rfl rfl) ?_
      refine OWp.g rfl rfl (Gives.build rfl rfl) ?_
      refine OWp.step rfl (Step.storeAs 1 (Hop.zero.cells) rfl rfl rfl rfl rfl (by assumption) rfl (Unfz.zero _) rfl (Nat.le_of_ble_eq_true rfl) rfl rfl ?_)
      refine OWp.evs 1 rfl ?_
      refine OWp.step rfl (Step.storeAs 0 (HK.zero.cells) rfl rfl rfl rfl rfl (by assumption) rfl (Unfz.zero _) rfl (Nat.le_of_ble_eq_true rfl) rfl rfl ?_)
      refine OWp.evs 1 rfl ?_
      refine OWp.nil ?_
      refine Wp.ret ⟨trivial, _, ⟨_, _, _, _, rfl, rfl, ⟨_, _, _, mems, (by first | assumption | rfl)⟩, ⟨_, _, rfl, rfl, ⟨_, _, _, _, rfl, rfl, ⟨_, _, _, mems, (by first | assumption | rfl)⟩, ⟨_, _, rfl, rfl, rfl⟩⟩⟩⟩, ?_⟩
      exact ⟨S, subl, H⟩
    have h2 := ndF h2
    have hh : header.length = 248 := by omega
    unfold peelR at H
    rw [if_neg (fun h => h ⟨hp32, hh⟩)] at H
    refine Wp.skip ?_
    refine Wp.seq (Wp.regionDraw [0, 1, 2, 3, 4, 5, 6, 7, 8] [] rfl (by decide +kernel) ?_)
    refine DWp.evs 1 rfl ?_
    refine DWp.g rfl rfl rfl rfl (Gives.sliceStr (l := 0) (h' := 32) rfl rfl rfl rfl ⟨_, _, rfl, rfl⟩ (by decide) (by omega)) ?_
    refine DWp.evs 1 rfl ?_
    refine DWp.g rfl rfl rfl rfl (Gives.sliceStr (l := 32) (h' := 48) rfl rfl rfl ⟨_, _, rfl, rfl⟩ ⟨_, _, rfl, rfl⟩ (by decide) (by omega)) ?_
    refine DWp.evs 1 rfl ?_
    refine DWp.g rfl rfl rfl rfl (Gives.sliceStr (l := 48) (h' := header.length) rfl rfl rfl ⟨_, _, rfl, rfl⟩ rfl (by omega) (by omega)) ?_
    obtain ⟨pt', hpt⟩ : ∃ p, p = header.take 32 := ⟨_, rfl⟩
    obtain ⟨tg, htg⟩ : ∃ p, p = (header.drop 32).take 16 := ⟨_, rfl⟩
    obtain ⟨ls, hls⟩ : ∃ p, p = header.drop 48 := ⟨_, rfl⟩
    have e1 : (header.drop 0).take (32 - 0) = pt' := hpt.symm
    have e2 : (header.drop 32).take (48 - 32) = tg := htg.symm
    have e3 : (header.drop 48).take (header.length - 48) = ls := by rw [hls, List.take_of_length_le (by rw [List.length_drop]; omega)]
    have htl : tg.length = 16 := by rw [htg, List.length_take, List.length_drop]; omega
    have hll : ls.length = 200 := by rw [hls, List.length_drop]; omega
    have hptl : pt'.length = 32 := by rw [hpt, List.length_take]; omega
    rw [← hpt, ← htg, ← hls] at H
    rw [e1, e2, e3]
    clear e1 e2 e3
    refine DWp.evs 3 rfl ?_
    refine DWp.nil ?_
    refine Wp.seq (Wp.region ?_)
    refine OWp.evs 2 rfl ?_
    refine OWp.step rfl (Step.call rfl rfl rfl rfl rfl rfl ((rsharedC ?_)))
    refine OWp.evs 5 rfl ?_
    refine OWp.nil ?_
    refine Wp.seq ?_
    refine Wp.seq (Wp.region ?_)
    refine OWp.evs 2 rfl ?_
    refine OWp.nil ?_
    refine Wp.cond rfl (fun h3 => ?_) (fun h3 => ?_)
    · have h3 := ndT h3
      rw [if_pos (by omega)] at H
      refine Wp.seq (Wp.region ?_)
      refine OWp.g rfl rfl (Gives.build rfl rfl) ?_
      refine OWp.g rfl rfl (Gives.build rfl rfl) ?_
      refine OWp.evs 1 rfl ?_
      refine OWp.step rfl (Step.storeAs 1 (Hop.zero.cells) rfl rfl rfl rfl rfl (by assumption) rfl (Unfz.zero _) rfl (Nat.le_of_ble_eq_true rfl) rfl rfl ?_)
      refine OWp.evs 1 rfl ?_
      refine OWp.step rfl (Step.storeAs 0 (HK.zero.cells) rfl rfl rfl rfl rfl (by assumption) rfl (Unfz.zero _) rfl (Nat.le_of_ble_eq_true rfl) rfl rfl ?_)
      refine OWp.evs 1 rfl ?_
      refine OWp.nil ?_
      refine Wp.ret ⟨trivial, _, ⟨_, _, _, _, rfl, rfl, ⟨_, _, _, mems, (by first | assumption | rfl)⟩, ⟨_, _, rfl, rfl, ⟨_, _, _, _, rfl, rfl, ⟨_, _, _, mems, (by first | assumption | rfl)⟩, ⟨_, _, rfl, rfl, rfl⟩⟩⟩⟩, ?_⟩
      exact ⟨S, subl, H⟩
    have h3 := ndF h3
    have h3' : (sharedR priv pt').2 = 0 := by omega
    rw [if_neg (by omega)] at H
    have hsl := sharedR_len h3'
    generalize (sharedR priv pt').1 = sec at *
    refine Wp.skip ?_
    refine Wp.seq (Wp.region ?_)
    refine OWp.evs 1 rfl ?_
    refine OWp.step rfl (Step.call rfl rfl rfl rfl rfl rfl ((rofC (by rw [hsl]; decide) ?_)))
    obtain ⟨hkf, hkm, hkb, hkbl, hkt⟩ := keysOf_lens sec
    generalize hk : keysOf sec = k at *
    refine OWp.step rfl (Step.alloc rfl rfl rfl ?_); intro L13 hBL13 hLL13
    refine OWp.step rfl (Step.storeAs 0 (k.cells) rfl rfl rfl rfl rfl (by assumption) rfl (Unfz.zero _) rfl (Nat.le_of_ble_eq_true rfl) rfl rfl ?_)
    refine OWp.nil ?_
    refine Wp.seq ?_
    refine Wp.seq (Wp.region ?_)
    refine OWp.load (.head _) rfl rfl rfl rfl rfl ?_
    refine OWp.evs 1 rfl ?_
    refine OWp.step rfl (Step.call rfl rfl rfl rfl rfl rfl ((rmacC hkm (by rw [hll]; decide) ?_)))
    refine OWp.evs 2 rfl ?_
    refine OWp.nil ?_
    refine Wp.cond rfl (fun h4 => ?_) (fun h4 => ?_)
    · have h4 := ndT h4
      rw [if_pos h4] at H
      refine Wp.seq (Wp.region ?_)
      refine OWp.g rfl rfl (Gives.build rfl rfl) ?_
      refine OWp.g rfl rfl (Gives.build rfl rfl) ?_
      refine OWp.step rfl (Step.storeAs 2 (Hop.zero.cells) rfl rfl rfl rfl rfl (by assumption) rfl (Unfz.zero _) rfl (Nat.le_of_ble_eq_true rfl) rfl rfl ?_)
      refine OWp.evs 1 rfl ?_
      refine OWp.step rfl (Step.storeAs 1 (HK.zero.cells) rfl rfl rfl rfl rfl (by assumption) rfl (Unfz.zero _) rfl (Nat.le_of_ble_eq_true rfl) rfl rfl ?_)
      refine OWp.evs 1 rfl ?_
      refine OWp.nil ?_
      refine Wp.ret ⟨trivial, _, ⟨_, _, _, _, rfl, rfl, ⟨_, _, _, mems, (by first | assumption | rfl)⟩, ⟨_, _, rfl, rfl, ⟨_, _, _, _, rfl, rfl, ⟨_, _, _, mems, (by first | assumption | rfl)⟩, ⟨_, _, rfl, rfl, rfl⟩⟩⟩⟩, ?_⟩
      exact ⟨S, subl, H⟩
    have h4 := ndF h4
    rw [if_neg (fun h => h h4)] at H
    refine Wp.skip ?_
    refine Wp.seq (Wp.regionDraw [0, 3, 1, 2, 4, 5, 6] [1, 4, 5] rfl (by decide +kernel) ?_)
    refine DWp.evs 1 rfl ?_
    refine DWp.load (.head _) rfl rfl rfl rfl rfl rfl rfl ?_
    refine DWp.stepGrow rfl rfl rfl (Step.call rfl rfl rfl rfl rfl rfl ((rzerosC (n := 40) (by decide) ?_)))
    refine ⟨fun _ hy => hy, ?_⟩
    refine DWp.g rfl rfl rfl rfl (Gives.addStr rfl rfl rfl (by rw [hll, List.length_replicate]; decide)) ?_
    refine DWp.stepGrow rfl rfl rfl (Step.call rfl rfl rfl rfl rfl rfl ((rflowC hkf ?_)))
    refine ⟨fun _ hy => hy, ?_⟩
    refine DWp.stepGrow rfl rfl rfl (Step.call rfl rfl rfl rfl rfl rfl ((rwithC (by rw [List.length_append, hll, List.length_replicate, fl_len]; decide) (by rw [List.length_append, hll, List.length_replicate]; decide) ?_)))
    refine ⟨fun _ hy => hy, ?_⟩
    have hpl : (flowX k (ls ++ List.replicate 40 0) 0).length = 240 := by rw [flowX_len _ (by rw [List.length_append, hll, List.length_replicate]; decide), List.length_append, hll, List.length_replicate]
    rw [show xors (ls ++ List.replicate 40 0) (fl k) = flowX k (ls ++ List.replicate 40 0) 0 from rfl]
    unfold openR at H
    simp only at H
    generalize flowX k (ls ++ List.replicate 40 0) 0 = pl at *
    refine DWp.evs 1 rfl ?_
    refine DWp.nil ?_
    refine Wp.seq (Wp.region ?_)
    refine OWp.evs 1 rfl ?_
    refine OWp.g rfl rfl (Gives.sliceStr (l := 0) (h' := 24) rfl rfl rfl rfl ⟨_, _, rfl, rfl⟩ (by decide) (by omega)) ?_
    rw [show (pl.drop 0).take (24 - 0) = pl.take 24 from rfl]
    refine OWp.step rfl (Step.call rfl rfl rfl rfl rfl rfl ((rdecodeF (by rw [List.length_take]; omega) ?_)))
    generalize decF (pl.take 24) = d at *
    obtain ⟨hop, de⟩ := d
    simp only at H ⊢
    refine OWp.evs 3 rfl ?_
    refine OWp.step rfl (Step.alloc rfl rfl rfl ?_); intro L15 hBL15 hLL15
    refine OWp.step rfl (Step.storeAs 0 (hop.cells) rfl rfl rfl rfl rfl (by assumption) rfl (Unfz.zero _) rfl (Nat.le_of_ble_eq_true rfl) rfl rfl ?_)
    refine OWp.evs 1 rfl ?_
    refine OWp.nil ?_
    refine Wp.seq ?_
    refine Wp.seq (Wp.region ?_)
    refine OWp.evs 2 rfl ?_
    refine OWp.nil ?_
    refine Wp.cond rfl (fun h5 => ?_) (fun h5 => ?_)
    · have h5 := ndT h5
      rw [if_pos (by omega)] at H
      refine Wp.seq (Wp.region ?_)
      refine OWp.g rfl rfl (Gives.build rfl rfl) ?_
      refine OWp.g rfl rfl (Gives.build rfl rfl) ?_
      refine OWp.evs 1 rfl ?_
      refine OWp.step rfl (Step.storeAs 3 (Hop.zero.cells) rfl rfl rfl rfl rfl (by assumption) rfl (Unfz.zero _) rfl (Nat.le_of_ble_eq_true rfl) rfl rfl ?_)
      refine OWp.evs 1 rfl ?_
      refine OWp.step rfl (Step.storeAs 2 (HK.zero.cells) rfl rfl rfl rfl rfl (by assumption) rfl (Unfz.zero _) rfl (Nat.le_of_ble_eq_true rfl) rfl rfl ?_)
      refine OWp.evs 1 rfl ?_
      refine OWp.nil ?_
      refine Wp.ret ⟨trivial, _, ⟨_, _, _, _, rfl, rfl, ⟨_, _, _, mems, (by first | assumption | rfl)⟩, ⟨_, _, rfl, rfl, ⟨_, _, _, _, rfl, rfl, ⟨_, _, _, mems, (by first | assumption | rfl)⟩, ⟨_, _, rfl, rfl, rfl⟩⟩⟩⟩, ?_⟩
      exact ⟨S, subl, H⟩
    have h5 := ndF h5
    rw [if_neg (by omega)] at H
    refine Wp.skip ?_
    refine Wp.seq ?_
    refine Wp.seq (Wp.region ?_)
    refine OWp.evs 1 rfl ?_
    refine OWp.load (.head _) rfl rfl rfl rfl rfl ?_
    refine OWp.evs 1 rfl ?_
    refine OWp.nil ?_
    refine Wp.cond rfl (fun h6 => ?_) (fun h6 => ?_)
    · have h6 := ndT h6
      rw [if_pos (by omega)] at H
      refine Wp.seq (Wp.regionDraw [0, 1, 2, 3, 4, 5] [2, 4] rfl (by decide +kernel) ?_)
      refine DWp.load (.head _) rfl rfl rfl rfl rfl rfl rfl ?_
      refine DWp.load (.tail _ (.head _)) rfl rfl rfl rfl rfl rfl rfl ?_
      refine DWp.step rfl rfl rfl (Step.storeAs 3 (hop.cells) rfl rfl rfl rfl rfl (by assumption) rfl (Unfz.zero _) rfl (Nat.le_of_ble_eq_true rfl) rfl rfl ?_)
      refine prs ?_
      refine DWp.evs 1 rfl ?_
      refine DWp.stepAll rfl rfl rfl rfl (Step.storeAs 2 (k.cells) rfl rfl rfl rfl rfl (by assumption) rfl (Unfz.zero _) rfl (Nat.le_of_ble_eq_true rfl) rfl rfl ?_)
      refine DWp.evs 1 rfl ?_
      refine DWp.nil ?_
      refine Wp.ret ⟨trivial, _, ⟨_, _, _, _, rfl, rfl, ⟨_, _, _, mems, (by first | assumption | rfl)⟩, ⟨_, _, rfl, rfl, ⟨_, _, _, _, rfl, rfl, ⟨_, _, _, mems, (by first | assumption | rfl)⟩, ⟨_, _, rfl, rfl, rfl⟩⟩⟩⟩, ?_⟩
      exact ⟨S, subl, H⟩
    have h6 := ndF h6
    rw [if_neg (by omega)] at H
    refine Wp.skip ?_
    refine Wp.seq (Wp.region ?_)
    refine OWp.evs 1 rfl ?_
    refine OWp.load (.tail _ (.head _)) rfl rfl rfl rfl rfl ?_
    refine OWp.evs 1 rfl ?_
    refine OWp.step rfl (Step.call rfl rfl rfl rfl rfl rfl ((rtimesUC ?_)))
    have htn : (timesR k.blind pt').1.length = 32 := timesR_len (by unfold timesR; rw [if_pos ⟨hkbl, hptl⟩])
    refine OWp.evs 5 rfl ?_
    refine OWp.nil ?_
    refine Wp.seq (Wp.regionDraw [0, 1, 2, 3, 4, 5, 6, 7, 8, 9] [6, 8] rfl (by decide +kernel) ?_)
    refine DWp.load (.head _) rfl rfl rfl rfl rfl rfl rfl ?_
    refine DWp.evs 2 rfl ?_
    refine DWp.g rfl rfl rfl rfl (Gives.sliceStr (l := 24) (h' := pl.length) rfl rfl rfl ⟨_, _, rfl, rfl⟩ rfl (by omega) (by omega)) ?_
    rw [show (pl.drop 24).take (pl.length - 24) = pl.drop 24 by rw [List.take_of_length_le (by rw [List.length_drop]; omega)]]
    refine DWp.g rfl rfl rfl rfl (Gives.addStr rfl rfl rfl (by rw [htn, List.length_drop]; omega)) ?_
    refine DWp.load (.tail _ (.head _)) rfl rfl rfl rfl rfl rfl rfl ?_
    refine DWp.step rfl rfl rfl (Step.storeAs 3 (hop.cells) rfl rfl rfl rfl rfl (by assumption) rfl (Unfz.zero _) rfl (Nat.le_of_ble_eq_true rfl) rfl rfl ?_)
    refine prs ?_
    refine DWp.evs 1 rfl ?_
    refine DWp.stepAll rfl rfl rfl rfl (Step.storeAs 2 (k.cells) rfl rfl rfl rfl rfl (by assumption) rfl (Unfz.zero _) rfl (Nat.le_of_ble_eq_true rfl) rfl rfl ?_)
    refine DWp.evs 1 rfl ?_
    refine DWp.nil ?_
    refine Wp.ret ⟨trivial, _, ⟨_, _, _, _, rfl, rfl, ⟨_, _, _, mems, (by first | assumption | rfl)⟩, ⟨_, _, rfl, rfl, ⟨_, _, _, _, rfl, rfl, ⟨_, _, _, mems, (by first | assumption | rfl)⟩, ⟨_, _, rfl, rfl, rfl⟩⟩⟩⟩, ?_⟩
    exact ⟨S, subl, H⟩
  refine OWp.evs 1 rfl ?_
  refine OWp.nil ?_
  refine Wp.seq ?_
  refine Wp.seq (Wp.region ?_)
  refine OWp.evs 4 rfl ?_
  refine OWp.part 21 rfl (fun cc2 => ?_) (fun cc2 => absurd (ndF cc2) (by omega))
  have cc2 := ndT cc2
  have hE : peelR priv header = (Hop.zero, [], HK.zero, 3) := by unfold peelR; rw [if_pos (by omega)]
  rw [hE] at H
  refine OWp.evs 4 rfl ?_
  refine OWp.nil ?_
  refine Wp.cond rfl (fun _ => ?_) (fun c => nomatch c)
  refine Wp.seq (Wp.region ?_)
  refine OWp.g rfl rfl (Gives.build rfl rfl) ?_
  refine OWp.g rfl rfl (Gives.build rfl rfl) ?_
  refine OWp.step rfl (Step.storeAs 1 (Hop.zero.cells) rfl rfl rfl rfl rfl (by assumption) rfl (Unfz.zero _) rfl (Nat.le_of_ble_eq_true rfl) rfl rfl ?_)
  refine OWp.evs 1 rfl ?_
  refine OWp.step rfl (Step.storeAs 0 (HK.zero.cells) rfl rfl rfl rfl rfl (by assumption) rfl (Unfz.zero _) rfl (Nat.le_of_ble_eq_true rfl) rfl rfl ?_)
  refine OWp.evs 1 rfl ?_
  refine OWp.nil ?_
  refine Wp.ret ⟨trivial, _, ⟨_, _, _, _, rfl, rfl, ⟨_, _, _, mems, (by first | assumption | rfl)⟩, ⟨_, _, rfl, rfl, ⟨_, _, _, _, rfl, rfl, ⟨_, _, _, mems, (by first | assumption | rfl)⟩, ⟨_, _, rfl, rfl, rfl⟩⟩⟩⟩, ?_⟩
  exact ⟨S, subl, H⟩
end
end Go.Proofs.D

/- Laws of wide blocks: the works, what is laid open, what is turned. -/
namespace Go.Sha

def wstep (key : List UInt8) (x : List UInt8 × List UInt8) (i : Nat) : List UInt8 × List UInt8 := if i % 2 = 0 then wflow key i x else wpress key i x
theorem wopen_fold (key b : List UInt8) : wopen key b = whole ([3, 2, 1, 0].foldl (wstep key) (halves b)) := rfl
theorem wstep_halved {m : Nat} {key : List UInt8} {i : Nat} {x : List UInt8 × List UInt8} (h : Halved m x) : Halved m (wstep key x i) := by
  unfold wstep
  split
  · exact wflow_halved h
  · exact wpress_halved h
theorem wfold_halved {m : Nat} {key : List UInt8} : ∀ (l : List Nat) {x : List UInt8 × List UInt8}, Halved m x → Halved m (l.foldl (wstep key) x)
  | [], _, h => h
  | i :: l, _, h => wfold_halved l (wstep_halved (i := i) h)
theorem xors_comm : ∀ a b : List UInt8, xors a b = xors b a
  | [], b => by cases b <;> rfl
  | x :: a, [] => rfl
  | x :: a, y :: b => by
    show (x ^^^ y) :: xors a b = (y ^^^ x) :: xors b a
    rw [xors_comm a b, UInt8.xor_comm]

/-- A block's answer, and why there is none. -/
def blockR (f : List UInt8 → List UInt8) (b : List UInt8) : List UInt8 × Nat :=
  if b.length < 64 then ([], 3) else if 8192 < b.length then ([], 2) else (f b, 0)
def wrapR (key text : List UInt8) (n : Int) : List UInt8 × Nat :=
  if n < 64 then ([], 3) else if 8192 < n ∨ n - 34 < (text.length : Int) then ([], 2) else (wshut key (wplain text n.toNat), 0)
def unwrapT : Option (List UInt8) → List UInt8 × Nat
  | some t => (t, 0)
  | none => ([], 90)
def unwrapR (key b : List UInt8) : List UInt8 × Nat :=
  if b.length < 64 then ([], 3) else if 8192 < b.length then ([], 2) else unwrapT (wtext (wopen key b))

/-- The bytes of a block as they are laid, text byte by text byte. -/
def plainAt (text : List UInt8) (n i : Nat) : List UInt8 :=
  List.replicate 32 0 ++ (UInt8.ofNat (text.length / 256) :: UInt8.ofNat text.length :: (text.take i ++ List.replicate (n - 34 - i) 0))
end Go.Sha

namespace Go.Proofs.D
open Go.Sha
theorem dropZ_nil {l : List UInt8} : l.dropWhile (· == 0) = [] ↔ l.all (· == 0) = true := by
  induction l with
  | nil => simp
  | cons a l ih =>
    rw [List.dropWhile_cons, List.all_cons]
    split
    · rename_i h; simp only [h, Bool.true_and]; exact ih
    · rename_i h; simp [h]
theorem trim_nil {l : List UInt8} : trim l = [] ↔ l.all (· == 0) = true := by
  unfold trim
  rw [dropZ_nil]
  constructor
  · intro h
    rw [List.all_reverse] at h
    have h2 : l.reverse.dropWhile (· == 0) = [] := by
      by_cases h3 : l.reverse.dropWhile (· == 0) = []
      · exact h3
      · have := List.head_dropWhile_not (p := (· == (0 : UInt8))) (w := h3)
        have h4 := List.all_eq_true.1 h _ (List.head_mem h3)
        simp_all
    have := dropZ_nil.1 h2
    rwa [List.all_reverse] at this
  · intro h
    have : l.reverse.dropWhile (· == 0) = [] := dropZ_nil.2 (by rw [List.all_reverse]; exact h)
    rw [this]; rfl
theorem trim_all {l : List UInt8} (h : l.all (· == 0) = true) : trim l = [] := trim_nil.2 h
end Go.Proofs.D
