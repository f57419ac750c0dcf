/- What functions of the given program do, one after the other, told by that layer. -/
import Derived.Test.YtkbagleekpgdeaaGreatDoorZM13x9503
import Derived.Test.YtkbagleekpgdeaaGreatDoorZM4x1c5b
import Derived.Test.YtkbagleekpgdeaaGreatDoorZM6xf9cb
import Derived.Test.YtkbagleekpgdeaaGreatDoorBWidW
import Derived.Test.YtkbagleekpgdeaaGreatDoorZM10x9e4f
namespace Go.Proofs.D
open Go.Lg Go.Sha
set_option maxRecDepth 100000

theorem brow_reads {L m cap : Nat} {x : List UInt8} {g : List Value} {S : Ents} (hm : x.length = m) (h : brow L x g ∈ S) : Reads S 1 (.slice (some ⟨L, 0, none⟩) m cap) m (byteCells x) := by
  subst hm
  have := Reads.row (sz := 1) (k := x.length) (cap := cap) h (by rw [List.length_append, byteCells_length]; omega)
  rw [Nat.mul_one, List.take_append_of_le_length (by rw [byteCells_length]; exact Nat.le_refl _), List.take_of_length_le (by rw [byteCells_length]; exact Nat.le_refl _)] at this
  exact this

abbrev hlE (L L1 L2 : Nat) (dk : List UInt8) (m c1 c2 : Nat) : Nat × Obj := (L, cel [.string (str dk), .slice (some ⟨L1, 0, none⟩) 32 c1, .slice (some ⟨L2, 0, none⟩) m c2] 152)

theorem rot3 {a b c : Nat × Obj} {S : Ents} : (a :: b :: c :: S).Perm (b :: c :: a :: S) := (List.Perm.swap _ _ _).trans (List.Perm.cons _ (List.Perm.swap _ _ _))

section
variable {B : Nat} {S R : Ents} {Q : Value → Ents → Prop}

theorem wmixNC {L m : Nat} {x s : List UInt8} {g : List Value} {cap : Nat} (hm : x.length = m) (hB : B ≤ L) (hx : x.length ≤ big) (hl : x.length ≤ s.length) (H : Q (.tuple #[]) (brow L (xors x s) g :: R)) :
    CallWp Tryz.prog B 121 #[.slice (some ⟨L, 0, none⟩) m cap, .string (str s)] Q (brow L x g :: R) := by
  subst hm; exact wmixC hB hx hl H

theorem wbeginC {key block : List UInt8} (hk : KsIn S) (h1 : key.length + 1000 ≤ big) (h2 : 64 ≤ block.length) (h3 : block.length ≤ 8192)
    (H : ∀ L L1 L2 g1 g2 c1 c2, B ≤ L → B ≤ L1 → B ≤ L2 → Q (.tuple #[pt L, .int .i64 0]) (hlE L L1 L2 (derive key wlabel 128) (block.length - 32) c1 c2 :: brow L2 (block.drop 32) g2 :: brow L1 (block.take 32) g1 :: S)) :
    CallWp Tryz.prog B 83 #[.string (str key), .string (str block)] Q S := by
  have hb : big = 281474976710656 := rfl
  refine CallWp.enter (args := [_, _]) Tryz.func83 rfl Tryz.ntmps83 rfl ?_
  refine Wp.seq (Wp.region ?_)
  refine OWp.evs 2 rfl ?_
  refine OWp.nil ?_
  refine Wp.seq ?_
  refine Wp.block ?_
  refine Wp.seq (Wp.region ?_)
  refine OWp.evs 4 rfl ?_
  refine OWp.nil ?_
  refine Wp.cond rfl (fun cc1 => absurd (of_decide_eq_true cc1) (by omega)) (fun cc1 => ?_)
  have cc1 := of_decide_eq_false cc1
  refine Wp.seq (Wp.region ?_)
  refine OWp.evs 4 rfl ?_
  refine OWp.nil ?_
  refine Wp.cond rfl (fun cc2 => absurd (of_decide_eq_true cc2) (by omega)) (fun cc2 => ?_)
  have cc2 := of_decide_eq_false cc2
  refine Wp.skip ?_
  refine Wp.seq (Wp.region ?_)
  refine OWp.evs 1 rfl ?_
  refine OWp.step rfl (Step.call rfl rfl rfl rfl rfl rfl ((deriveC (label := wlabel) (n := 128) hk (by decide) h1 (by rw [hb]; decide) ?_)))
  refine OWp.evs 5 rfl ?_
  refine OWp.nil ?_
  refine Wp.seq (Wp.regionDraw [0, 1, 2, 3, 5, 6, 10, 13, 13, 13, 13, 13, 13] [4, 7, 9] rfl (by decide +kernel) ?_)
  refine DWp.evs 1 rfl ?_
  refine DWp.g rfl rfl rfl rfl (Gives.build rfl rfl) ?_
  refine DWp.evs 1 rfl ?_
  refine DWp.g rfl rfl rfl rfl (Gives.sliceStr (l := 0) (h' := 32) rfl rfl rfl rfl ⟨_, _, rfl, rfl⟩ (by omega) (by omega)) ?_
  refine DWp.evs 1 rfl ?_
  refine DWp.g rfl rfl rfl rfl (Gives.sliceStr (l := 32) (h' := block.length) rfl rfl rfl ⟨_, _, rfl, rfl⟩ rfl (by omega) (by omega)) ?_
  refine DWp.evs 1 rfl ?_
  refine DWp.fork (i := 4) (j := 7) (r1 := [7, 8, 9, 11, 12]) (r2 := [4, 8, 9, 11, 12]) (by decide +kernel) rfl rfl rfl rfl (by decide +kernel) (by decide +kernel) rfl rfl ?_ ?_
  · skip
    refine (Step.strToBytes rfl rfl rfl rfl rfl rfl ?_); intro L1 g1 p1 hBL1 hLL1 hcL1; refine ⟨fun _ hy => .tail _ hy, ?_⟩
    refine DWp.stepGrow rfl rfl rfl (Step.strToBytes rfl rfl rfl rfl rfl rfl ?_); intro L2 g2 p2 hBL2 hLL2 hcL2; refine ⟨fun _ hy => .tail _ hy, ?_⟩
    refine DWp.g rfl rfl rfl rfl (Gives.build rfl rfl) ?_
    refine DWp.stepGrow rfl rfl rfl (Step.box rfl rfl rfl ?_); intro L hBL hLL; refine ⟨fun _ hy => .tail _ hy, ?_⟩
    refine DWp.evs 2 rfl ?_
    refine DWp.nil ?_
    refine Wp.ret ⟨trivial, _, ⟨_, _, rfl, rfl, _, _, rfl, rfl, rfl⟩, ?_⟩
    have e2 : (block.drop 32).take (block.length - 32) = block.drop 32 := List.take_of_length_le (by rw [List.length_drop]; exact Nat.le_refl _)
    have e1 : (block.drop 0).take (32 - 0) = block.take 32 := rfl
    rw [e2] at hcL2
    obtain rfl : p1 = (block.take 32).length + g1.length := by rw [← hcL1, List.length_append, byteCells_length, e1]
    obtain rfl : p2 = (block.drop 32).length + g2.length := by rw [← hcL2, List.length_append, byteCells_length]
    have := H L L1 L2 g1 g2 ((block.take 32).length + g1.length) ((block.drop 32).length + g2.length) hBL hBL1 hBL2
    have e3 : (block.take 32).length = 32 := by rw [List.length_take]; omega
    simp only [brow, e2, e1, e3, List.length_drop] at this ⊢
    exact this
  refine (Step.strToBytes rfl rfl rfl rfl rfl rfl ?_); intro L2 g2 p2 hBL2 hLL2 hcL2; refine ⟨fun _ hy => .tail _ hy, ?_⟩
  refine DWp.stepGrow rfl rfl rfl (Step.strToBytes rfl rfl rfl rfl rfl rfl ?_); intro L1 g1 p1 hBL1 hLL1 hcL1; refine ⟨fun _ hy => .tail _ hy, ?_⟩
  refine DWp.g rfl rfl rfl rfl (Gives.build rfl rfl) ?_
  refine DWp.stepGrow rfl rfl rfl (Step.box rfl rfl rfl ?_); intro L hBL hLL; refine ⟨fun _ hy => .tail _ hy, ?_⟩
  refine DWp.evs 2 rfl ?_
  refine DWp.nil ?_
  refine Wp.permS (List.Perm.cons _ (List.Perm.swap _ _ _)) ?_
  refine Wp.ret ⟨trivial, _, ⟨_, _, rfl, rfl, _, _, rfl, rfl, rfl⟩, ?_⟩
  have e2 : (block.drop 32).take (block.length - 32) = block.drop 32 := List.take_of_length_le (by rw [List.length_drop]; exact Nat.le_refl _)
  have e1 : (block.drop 0).take (32 - 0) = block.take 32 := rfl
  rw [e2] at hcL2
  obtain rfl : p1 = (block.take 32).length + g1.length := by rw [← hcL1, List.length_append, byteCells_length, e1]
  obtain rfl : p2 = (block.drop 32).length + g2.length := by rw [← hcL2, List.length_append, byteCells_length]
  have := H L L1 L2 g1 g2 ((block.take 32).length + g1.length) ((block.drop 32).length + g2.length) hBL hBL1 hBL2
  have e3 : (block.take 32).length = 32 := by rw [List.length_take]; omega
  simp only [brow, e2, e1, e3, List.length_drop] at this ⊢
  exact this
theorem wbeginShortC {key block : List UInt8} (h2 : block.length < 64) (H : Q (.tuple #[.pointer none, .int .i64 3]) S) :
    CallWp Tryz.prog B 83 #[.string (str key), .string (str block)] Q S := by
  refine CallWp.enter (args := [_, _]) Tryz.func83 rfl Tryz.ntmps83 rfl ?_
  refine Wp.seq (Wp.region ?_)
  refine OWp.evs 2 rfl ?_
  refine OWp.nil ?_
  refine Wp.seq ?_
  refine Wp.block ?_
  refine Wp.seq (Wp.region ?_)
  refine OWp.evs 4 rfl ?_
  refine OWp.nil ?_
  refine Wp.cond rfl (fun cc1 => ?_) (fun cc1 => absurd (of_decide_eq_false cc1) (by omega))
  have cc1 := of_decide_eq_true cc1
  refine Wp.seq (Wp.region ?_)
  refine OWp.evs 2 rfl ?_
  refine OWp.nil ?_
  refine Wp.ret ⟨trivial, _, ⟨_, _, rfl, rfl, _, _, rfl, rfl, rfl⟩, ?_⟩
  exact H
theorem wbeginLongC {key block : List UInt8} (h2 : 8192 < block.length) (H : Q (.tuple #[.pointer none, .int .i64 2]) S) :
    CallWp Tryz.prog B 83 #[.string (str key), .string (str block)] Q S := by
  refine CallWp.enter (args := [_, _]) Tryz.func83 rfl Tryz.ntmps83 rfl ?_
  refine Wp.seq (Wp.region ?_)
  refine OWp.evs 2 rfl ?_
  refine OWp.nil ?_
  refine Wp.seq ?_
  refine Wp.block ?_
  refine Wp.seq (Wp.region ?_)
  refine OWp.evs 4 rfl ?_
  refine OWp.nil ?_
  refine Wp.cond rfl (fun cc1 => absurd (of_decide_eq_true cc1) (by omega)) (fun cc1 => ?_)
  have cc1 := of_decide_eq_false cc1
  refine Wp.seq (Wp.region ?_)
  refine OWp.evs 4 rfl ?_
  refine OWp.nil ?_
  refine Wp.cond rfl (fun cc2 => ?_) (fun cc2 => absurd (of_decide_eq_false cc2) (by omega))
  have cc2 := of_decide_eq_true cc2
  refine Wp.seq (Wp.region ?_)
  refine OWp.evs 2 rfl ?_
  refine OWp.nil ?_
  refine Wp.ret ⟨trivial, _, ⟨_, _, rfl, rfl, _, _, rfl, rfl, rfl⟩, ?_⟩
  exact H
theorem wtextC {L L1 L2 m c1 c2 : Nat} {dk : List UInt8} {x : List UInt8 × List UInt8} {g1 g2 : List Value} (hx : Halved m x) (hm : m ≤ 8160) (H : Q (.string (str (whole x))) (hlE L L1 L2 dk m c1 c2 :: brow L2 x.2 g2 :: brow L1 x.1 g1 :: S)) :
    CallWp Tryz.prog B 86 #[pt L] Q (hlE L L1 L2 dk m c1 c2 :: brow L2 x.2 g2 :: brow L1 x.1 g1 :: S) := by
  have hx1 := hx.1
  have hx2 := hx.2
  refine CallWp.enter (args := [_]) Tryz.func86 rfl Tryz.ntmps86 rfl ?_
  refine Wp.seq (Wp.region ?_)
  refine OWp.evs 1 rfl ?_
  refine OWp.nil ?_
  refine Wp.seq (Wp.regionDraw [0, 1, 2, 3, 4, 5, 6, 7, 8, 9, 10, 11] [] rfl (by decide +kernel) ?_)
  refine DWp.evs 3 rfl ?_
  refine DWp.load (.head _) rfl rfl rfl rfl rfl rfl rfl ?_
  refine DWp.gives rfl rfl rfl rfl (Gives.bytesToStr (F := [brow L1 x.1 g1]) (l := x.1) (k := 32) rfl rfl rfl rfl rfl (brow_reads hx.1 (.head _))) (mem1 (.tail _ (.tail _ (.head _)))) ?_
  refine DWp.evs 3 rfl ?_
  refine DWp.load (.head _) rfl rfl rfl rfl rfl rfl rfl ?_
  refine DWp.gives rfl rfl rfl rfl (Gives.bytesToStr (F := [brow L2 x.2 g2]) (l := x.2) (k := m) rfl rfl rfl rfl rfl (brow_reads hx.2 (.head _))) (mem1 (.tail _ (.head _))) ?_
  refine DWp.g rfl rfl rfl rfl (Gives.addStr rfl rfl rfl (by omega)) ?_
  refine DWp.evs 1 rfl ?_
  refine DWp.nil ?_
  refine Wp.ret ⟨trivial, _, ⟨_, _, rfl, rfl, rfl⟩, ?_⟩
  exact H
theorem wpressC {L L1 L2 m c1 c2 i : Nat} {key : List UInt8} {x : List UInt8 × List UInt8} {g1 g2 : List Value} (hk : KsIn S) (hx : Halved m x) (hm : m ≤ 8160) (hi : i < 4) (hB : B ≤ L1)
    (H : Q (.tuple #[]) (hlE L L1 L2 (derive key wlabel 128) m c1 c2 :: brow L2 (wpress key i x).2 g2 :: brow L1 (wpress key i x).1 g1 :: S)) :
    CallWp Tryz.prog B 85 #[pt L, .int .i64 (i : Int)] Q (hlE L L1 L2 (derive key wlabel 128) m c1 c2 :: brow L2 x.2 g2 :: brow L1 x.1 g1 :: S) := by
  have hb : big = 281474976710656 := rfl
  have hx1 := hx.1
  have hx2 := hx.2
  have hkl := wkey_len key hi
  refine subRet ?_
  refine CallWp.enter (args := [_, _]) Tryz.func85 rfl Tryz.ntmps85 rfl ?_
  refine Wp.regionDraw [0, 1, 2, 3, 4, 5, 6, 7, 8, 10, 11, 12, 13, 14, 18, 18, 18, 18] [9, 15, 16, 17] rfl (by decide +kernel) ?_
  refine DWp.evs 3 rfl ?_
  refine DWp.load (.head _) rfl rfl rfl rfl rfl rfl rfl ?_
  refine DWp.evs 3 rfl ?_
  refine DWp.load (.head _) rfl rfl rfl rfl rfl rfl rfl ?_
  refine DWp.evs 4 rfl ?_
  refine DWp.load (.head _) rfl rfl rfl rfl rfl rfl rfl ?_
  refine DWp.gives rfl rfl rfl rfl (Gives.bytesToStr (F := [brow L2 x.2 g2]) (l := x.2) (k := m) rfl rfl rfl rfl rfl (brow_reads hx.2 (.head _))) (mem1 (.tail _ (.head _))) ?_
  refine DWp.fork (i := 9) (j := 15) (r1 := [15, 16, 17]) (r2 := [9, 16, 17]) (by decide +kernel) rfl rfl rfl rfl (by decide +kernel) (by decide +kernel) rfl rfl ?_ ?_
  · skip
    refine (Step.call rfl rfl rfl rfl rfl rfl ((keyC (expand_len _ _ _) hi ?_)))
    refine ⟨fun _ hy => hy, ?_⟩
    refine DWp.stepGrow rfl rfl rfl (Step.buildSlice rfl rfl rfl ?_); intro Lb hBLb hLLb; refine ⟨fun _ hy => .tail _ hy, ?_⟩
    refine DWp.stepGrow rfl rfl rfl (Step.call rfl rfl rfl rfl rfl rfl ((tagC (key := wkey key i) (l := [x.2]) (Reads.row (k := 1) (sz := 1) (.head _) (Nat.le_of_ble_eq_true rfl)) (by decide) hk.cons.cons.cons.cons (by rw [hkl, hb]; decide) (by rw [hb]; simp; omega) ?_)))
    refine ⟨fun _ hy => hy, ?_⟩
    refine DWp.stepAll rfl rfl rfl rfl (Step.call rfl rfl rfl rfl rfl rfl (CallWp.focus 3 rfl ((wmixNC hx.1 hB (by rw [hb]; omega) (by rw [hmac_len]; omega) ?_))))
    refine DWp.nil ?_
    refine ⟨trivial, [], rfl, ?_⟩
    refine ⟨_, _, (List.Perm.swap _ _ _).trans (.cons _ rot3), List.sublist_cons_self _ _, ?_⟩
    have : [x.2].flatten = x.2 := by simp
    rw [this]; exact H
  refine (Step.buildSlice rfl rfl rfl ?_); intro Lb hBLb hLLb; refine ⟨fun _ hy => .tail _ hy, ?_⟩
  refine DWp.stepGrow rfl rfl rfl (Step.call rfl rfl rfl rfl rfl rfl ((keyC (expand_len _ _ _) hi ?_)))
  refine ⟨fun _ hy => hy, ?_⟩
  refine DWp.stepGrow rfl rfl rfl (Step.call rfl rfl rfl rfl rfl rfl ((tagC (key := wkey key i) (l := [x.2]) (Reads.row (k := 1) (sz := 1) (.head _) (Nat.le_of_ble_eq_true rfl)) (by decide) hk.cons.cons.cons.cons (by rw [hkl, hb]; decide) (by rw [hb]; simp; omega) ?_)))
  refine ⟨fun _ hy => hy, ?_⟩
  refine DWp.stepAll rfl rfl rfl rfl (Step.call rfl rfl rfl rfl rfl rfl (CallWp.focus 3 rfl ((wmixNC hx.1 hB (by rw [hb]; omega) (by rw [hmac_len]; omega) ?_))))
  refine DWp.nil ?_
  refine ⟨trivial, [], rfl, ?_⟩
  refine ⟨_, _, (List.Perm.swap _ _ _).trans (.cons _ rot3), List.sublist_cons_self _ _, ?_⟩
  have : [x.2].flatten = x.2 := by simp
  rw [this]; exact H
theorem wflowC {L L1 L2 m c1 c2 i : Nat} {key : List UInt8} {x : List UInt8 × List UInt8} {g1 g2 : List Value} (hx : Halved m x) (hm : m ≤ 8160) (hi : i < 4) (hB : B ≤ L2)
    (H : Q (.tuple #[]) (hlE L L1 L2 (derive key wlabel 128) m c1 c2 :: brow L2 (wflow key i x).2 g2 :: brow L1 (wflow key i x).1 g1 :: S)) :
    CallWp Tryz.prog B 84 #[pt L, .int .i64 (i : Int)] Q (hlE L L1 L2 (derive key wlabel 128) m c1 c2 :: brow L2 x.2 g2 :: brow L1 x.1 g1 :: S) := by
  have hb : big = 281474976710656 := rfl
  have hx1 := hx.1
  have hx2 := hx.2
  have hkl := wkey_len key hi
  refine subRet ?_
  refine CallWp.enter (args := [_, _]) Tryz.func84 rfl Tryz.ntmps84 rfl ?_
  refine Wp.seq (Wp.region ?_)
  refine OWp.evs 3 rfl ?_
  refine OWp.load (.head _) rfl rfl rfl rfl rfl ?_
  refine OWp.evs 1 rfl ?_
  refine OWp.step rfl (Step.call rfl rfl rfl rfl rfl rfl ((keyC (expand_len _ _ _) hi ?_)))
  refine OWp.step rfl (Step.strToBytes rfl rfl rfl rfl rfl rfl ?_); intro Lk gk pk hBLk hLLk hcLk
  have ek : ((derive key wlabel 128).drop (32 * i)).take 32 = wkey key i := rfl
  rw [ek] at hcLk ⊢
  obtain rfl : pk = (wkey key i).length + gk.length := by rw [← hcLk, List.length_append, byteCells_length]
  refine OWp.evs 1 rfl ?_
  refine OWp.nil ?_
  refine Wp.seq (Wp.region ?_)
  refine OWp.evs 4 rfl ?_
  refine OWp.load (.tail _ (.head _)) rfl rfl rfl rfl rfl ?_
  refine OWp.gives rfl rfl (Gives.bytesToStr (F := [brow L1 x.1 g1]) (l := x.1) (k := 32) rfl rfl rfl rfl rfl (brow_reads hx.1 (.head _))) (mem1 (.tail _ (.tail _ (.tail _ (.head _))))) ?_
  refine OWp.step rfl (Step.call rfl rfl rfl rfl rfl rfl ((wmixC hBLk (by rw [hb]; omega) (by omega) ?_)))
  refine OWp.nil ?_
  refine Wp.seq (Wp.regionDraw [0, 1, 2, 3, 4, 5, 6, 7, 8, 9, 10, 11, 12] [7] rfl (by decide +kernel) ?_)
  refine DWp.evs 1 rfl ?_
  refine DWp.gives rfl rfl rfl rfl (Gives.bytesToStr (F := [brow Lk (xors (wkey key i) x.1) gk]) (l := xors (wkey key i) x.1) (k := (wkey key i).length) rfl rfl rfl rfl rfl (brow_reads (xors_len (by omega)) (.head _))) (mem1 (.head _)) ?_
  refine DWp.evs 3 rfl ?_
  refine DWp.load (.tail _ (.head _)) rfl rfl rfl rfl rfl rfl rfl ?_
  refine DWp.evs 1 rfl ?_
  refine DWp.stepAll rfl rfl rfl rfl (Step.call rfl rfl rfl rfl rfl rfl ((sbytesnC (nonce := zeros12) (n := m) (by rw [xors_len (by omega)]; exact hkl) rfl (by omega) ?_)))
  refine DWp.evs 5 rfl ?_
  refine DWp.nil ?_
  refine Wp.region ?_
  refine OWp.evs 3 rfl ?_
  refine OWp.load (.tail _ (.head _)) rfl rfl rfl rfl rfl ?_
  refine OWp.evs 1 rfl ?_
  refine OWp.step rfl (Step.call rfl rfl rfl rfl rfl rfl (CallWp.focus 2 rfl ((wmixNC hx.2 hB (by rw [hb]; omega) (by rw [stream_len]; omega) ?_))))
  refine OWp.nil ?_
  refine ⟨trivial, [], rfl, ?_⟩
  refine ⟨_, _, rot3, List.sublist_cons_self _ _, ?_⟩
  rw [← hx2] at H ⊢
  exact H
theorem wshutC {key block : List UInt8} (hk : KsIn S) (h1 : key.length + 1000 ≤ big) (H : Q (.tuple #[.string (str (blockR (wshut key) block).1), .int .i64 ((blockR (wshut key) block).2 : Nat)]) S) :
    CallWp Tryz.prog B 53 #[.string (str key), .string (str block)] Q S := by
  have hb : big = 281474976710656 := rfl
  by_cases c1 : block.length < 64
  · have e : blockR (wshut key) block = ([], 3) := by unfold blockR; rw [if_pos c1]
    rw [e] at H
    refine CallWp.enter (args := [_, _]) Tryz.func53 rfl Tryz.ntmps53 rfl ?_
    refine Wp.seq (Wp.region ?_)
    refine OWp.evs 2 rfl ?_
    refine OWp.nil ?_
    refine Wp.seq (Wp.region ?_)
    refine OWp.evs 2 rfl ?_
    refine OWp.step rfl (Step.call rfl rfl rfl rfl rfl rfl ((wbeginShortC c1 ?_)))
    refine OWp.evs 5 rfl ?_
    refine OWp.nil ?_
    refine Wp.seq ?_
    refine Wp.seq (Wp.region ?_)
    refine OWp.evs 2 rfl ?_
    refine OWp.nil ?_
    refine Wp.cond rfl (fun cc1 => ?_) (fun cc1 => absurd (ndF cc1) (by decide))
    have cc1 := ndT cc1
    refine Wp.seq (Wp.region ?_)
    refine OWp.evs 3 rfl ?_
    refine OWp.nil ?_
    refine Wp.ret ⟨trivial, _, ⟨_, _, rfl, rfl, _, _, rfl, rfl, rfl⟩, ?_⟩
    exact H
  by_cases c2 : 8192 < block.length
  · have e : blockR (wshut key) block = ([], 2) := by unfold blockR; rw [if_neg c1, if_pos c2]
    rw [e] at H
    refine CallWp.enter (args := [_, _]) Tryz.func53 rfl Tryz.ntmps53 rfl ?_
    refine Wp.seq (Wp.region ?_)
    refine OWp.evs 2 rfl ?_
    refine OWp.nil ?_
    refine Wp.seq (Wp.region ?_)
    refine OWp.evs 2 rfl ?_
    refine OWp.step rfl (Step.call rfl rfl rfl rfl rfl rfl ((wbeginLongC c2 ?_)))
    refine OWp.evs 5 rfl ?_
    refine OWp.nil ?_
    refine Wp.seq ?_
    refine Wp.seq (Wp.region ?_)
    refine OWp.evs 2 rfl ?_
    refine OWp.nil ?_
    refine Wp.cond rfl (fun cc1 => ?_) (fun cc1 => absurd (ndF cc1) (by decide))
    have cc1 := ndT cc1
    refine Wp.seq (Wp.region ?_)
    refine OWp.evs 3 rfl ?_
    refine OWp.nil ?_
    refine Wp.ret ⟨trivial, _, ⟨_, _, rfl, rfl, _, _, rfl, rfl, rfl⟩, ?_⟩
    exact H
  have e : blockR (wshut key) block = (wshut key block, 0) := by unfold blockR; rw [if_neg c1, if_neg c2]
  rw [e] at H
  have x0 := halves_halved (b := block) (by omega)
  have hm : block.length - 32 ≤ 8160 := by omega
  have x1 := wflow_halved (key := key) (i := 0) x0
  have x2 := wpress_halved (key := key) (i := 1) x1
  have x3 := wflow_halved (key := key) (i := 2) x2
  have x4 := wpress_halved (key := key) (i := 3) x3
  refine subRet ?_
  refine CallWp.enter (args := [_, _]) Tryz.func53 rfl Tryz.ntmps53 rfl ?_
  refine Wp.seq (Wp.region ?_)
  refine OWp.evs 2 rfl ?_
  refine OWp.nil ?_
  refine Wp.seq (Wp.region ?_)
  refine OWp.evs 2 rfl ?_
  refine OWp.step rfl (Step.call rfl rfl rfl rfl rfl rfl ((wbeginC hk h1 (by omega) (by omega) ?_)))
  intro L L1 L2 g1 g2 p1 p2 hBL hBL1 hBL2
  refine OWp.evs 5 rfl ?_
  refine OWp.nil ?_
  refine Wp.seq ?_
  refine Wp.seq (Wp.region ?_)
  refine OWp.evs 2 rfl ?_
  refine OWp.nil ?_
  refine Wp.cond rfl (fun cc1 => absurd (ndT cc1) (by decide)) (fun cc1 => ?_)
  have cc1 := ndF cc1
  refine Wp.skip ?_
  refine Wp.seq (Wp.region ?_)
  refine OWp.evs 1 rfl ?_
  refine OWp.step rfl (Step.call rfl rfl rfl rfl rfl rfl ((wflowC (i := 0) x0 hm (by decide) hBL2 ?_)))
  refine OWp.nil ?_
  refine Wp.seq (Wp.region ?_)
  refine OWp.evs 1 rfl ?_
  refine OWp.step rfl (Step.call rfl rfl rfl rfl rfl rfl ((wpressC (i := 1) hk x1 hm (by decide) hBL1 ?_)))
  refine OWp.nil ?_
  refine Wp.seq (Wp.region ?_)
  refine OWp.evs 1 rfl ?_
  refine OWp.step rfl (Step.call rfl rfl rfl rfl rfl rfl ((wflowC (i := 2) x2 hm (by decide) hBL2 ?_)))
  refine OWp.nil ?_
  refine Wp.seq (Wp.region ?_)
  refine OWp.evs 1 rfl ?_
  refine OWp.step rfl (Step.call rfl rfl rfl rfl rfl rfl ((wpressC (i := 3) hk x3 hm (by decide) hBL1 ?_)))
  refine OWp.nil ?_
  refine Wp.seq (Wp.region ?_)
  refine OWp.evs 1 rfl ?_
  refine OWp.step rfl (Step.call rfl rfl rfl rfl rfl rfl ((wtextC x4 hm ?_)))
  refine OWp.evs 2 rfl ?_
  refine OWp.nil ?_
  refine Wp.ret ⟨trivial, _, ⟨_, _, rfl, rfl, _, _, rfl, rfl, rfl⟩, ?_⟩
  exact ⟨_, _, .refl _, subl, H⟩
theorem wopenC {key block : List UInt8} (hk : KsIn S) (h1 : key.length + 1000 ≤ big) (H : Q (.tuple #[.string (str (blockR (wopen key) block).1), .int .i64 ((blockR (wopen key) block).2 : Nat)]) S) :
    CallWp Tryz.prog B 90 #[.string (str key), .string (str block)] Q S := by
  have hb : big = 281474976710656 := rfl
  by_cases c1 : block.length < 64
  · have e : blockR (wopen key) block = ([], 3) := by unfold blockR; rw [if_pos c1]
    rw [e] at H
    refine CallWp.enter (args := [_, _]) Tryz.func90 rfl Tryz.ntmps90 rfl ?_
    refine Wp.seq (Wp.region ?_)
    refine OWp.evs 2 rfl ?_
    refine OWp.nil ?_
    refine Wp.seq (Wp.region ?_)
    refine OWp.evs 2 rfl ?_
    refine OWp.step rfl (Step.call rfl rfl rfl rfl rfl rfl ((wbeginShortC c1 ?_)))
    refine OWp.evs 5 rfl ?_
    refine OWp.nil ?_
    refine Wp.seq ?_
    refine Wp.seq (Wp.region ?_)
    refine OWp.evs 2 rfl ?_
    refine OWp.nil ?_
    refine Wp.cond rfl (fun cc1 => ?_) (fun cc1 => absurd (ndF cc1) (by decide))
    have cc1 := ndT cc1
    refine Wp.seq (Wp.region ?_)
    refine OWp.evs 3 rfl ?_
    refine OWp.nil ?_
    refine Wp.ret ⟨trivial, _, ⟨_, _, rfl, rfl, _, _, rfl, rfl, rfl⟩, ?_⟩
    exact H
  by_cases c2 : 8192 < block.length
  · have e : blockR (wopen key) block = ([], 2) := by unfold blockR; rw [if_neg c1, if_pos c2]
    rw [e] at H
    refine CallWp.enter (args := [_, _]) Tryz.func90 rfl Tryz.ntmps90 rfl ?_
    refine Wp.seq (Wp.region ?_)
    refine OWp.evs 2 rfl ?_
    refine OWp.nil ?_
    refine Wp.seq (Wp.region ?_)
    refine OWp.evs 2 rfl ?_
    refine OWp.step rfl (Step.call rfl rfl rfl rfl rfl rfl ((wbeginLongC c2 ?_)))
    refine OWp.evs 5 rfl ?_
    refine OWp.nil ?_
    refine Wp.seq ?_
    refine Wp.seq (Wp.region ?_)
    refine OWp.evs 2 rfl ?_
    refine OWp.nil ?_
    refine Wp.cond rfl (fun cc1 => ?_) (fun cc1 => absurd (ndF cc1) (by decide))
    have cc1 := ndT cc1
    refine Wp.seq (Wp.region ?_)
    refine OWp.evs 3 rfl ?_
    refine OWp.nil ?_
    refine Wp.ret ⟨trivial, _, ⟨_, _, rfl, rfl, _, _, rfl, rfl, rfl⟩, ?_⟩
    exact H
  have e : blockR (wopen key) block = (wopen key block, 0) := by unfold blockR; rw [if_neg c1, if_neg c2]
  rw [e] at H
  have x0 := halves_halved (b := block) (by omega)
  have hm : block.length - 32 ≤ 8160 := by omega
  have x1 := wpress_halved (key := key) (i := 3) x0
  have x2 := wflow_halved (key := key) (i := 2) x1
  have x3 := wpress_halved (key := key) (i := 1) x2
  have x4 := wflow_halved (key := key) (i := 0) x3
  refine subRet ?_
  refine CallWp.enter (args := [_, _]) Tryz.func90 rfl Tryz.ntmps90 rfl ?_
  refine Wp.seq (Wp.region ?_)
  refine OWp.evs 2 rfl ?_
  refine OWp.nil ?_
  refine Wp.seq (Wp.region ?_)
  refine OWp.evs 2 rfl ?_
  refine OWp.step rfl (Step.call rfl rfl rfl rfl rfl rfl ((wbeginC hk h1 (by omega) (by omega) ?_)))
  intro L L1 L2 g1 g2 p1 p2 hBL hBL1 hBL2
  refine OWp.evs 5 rfl ?_
  refine OWp.nil ?_
  refine Wp.seq ?_
  refine Wp.seq (Wp.region ?_)
  refine OWp.evs 2 rfl ?_
  refine OWp.nil ?_
  refine Wp.cond rfl (fun cc1 => absurd (ndT cc1) (by decide)) (fun cc1 => ?_)
  have cc1 := ndF cc1
  refine Wp.skip ?_
  refine Wp.seq (Wp.region ?_)
  refine OWp.evs 1 rfl ?_
  refine OWp.step rfl (Step.call rfl rfl rfl rfl rfl rfl ((wpressC (i := 3) hk x0 hm (by decide) hBL1 ?_)))
  refine OWp.nil ?_
  refine Wp.seq (Wp.region ?_)
  refine OWp.evs 1 rfl ?_
  refine OWp.step rfl (Step.call rfl rfl rfl rfl rfl rfl ((wflowC (i := 2) x1 hm (by decide) hBL2 ?_)))
  refine OWp.nil ?_
  refine Wp.seq (Wp.region ?_)
  refine OWp.evs 1 rfl ?_
  refine OWp.step rfl (Step.call rfl rfl rfl rfl rfl rfl ((wpressC (i := 1) hk x2 hm (by decide) hBL1 ?_)))
  refine OWp.nil ?_
  refine Wp.seq (Wp.region ?_)
  refine OWp.evs 1 rfl ?_
  refine OWp.step rfl (Step.call rfl rfl rfl rfl rfl rfl ((wflowC (i := 0) x3 hm (by decide) hBL2 ?_)))
  refine OWp.nil ?_
  refine Wp.seq (Wp.region ?_)
  refine OWp.evs 1 rfl ?_
  refine OWp.step rfl (Step.call rfl rfl rfl rfl rfl rfl ((wtextC x4 hm ?_)))
  refine OWp.evs 2 rfl ?_
  refine OWp.nil ?_
  refine Wp.ret ⟨trivial, _, ⟨_, _, rfl, rfl, _, _, rfl, rfl, rfl⟩, ?_⟩
  exact ⟨_, _, .refl _, subl, H⟩
end
end Go.Proofs.D

namespace Go.Proofs.D
open Go.Lg Go.Sha
set_option maxRecDepth 100000

theorem two_bytes {L : Nat} {t : TypeId} {S : Ents} {a b : Int} {x y : UInt8} (ha : a = (x.toNat : Int)) (hb : b = (y.toNat : Int)) :
    Reads ((L, cel [.int .u8 a, .int .u8 b] t) :: S) 1 (.slice (some ⟨L, 0, none⟩) 2 2) 2 (byteCells [x, y]) := by
  subst ha hb; exact Reads.row (k := 2) (sz := 1) (.head _) (Nat.le_of_ble_eq_true rfl)
theorem u8_hi (n : Nat) : IntKind.u8.wrap ((n : Int).fdiv (2 ^ (min 8 IntKind.i64.bits))) = ((UInt8.ofNat (n / 256)).toNat : Int) := by
  rw [Int.fdiv_eq_ediv_of_nonneg _ (by decide), ← u8_lo]; rfl
theorem join_hl (a b : UInt8) : bits .or .i64 (IntKind.i64.wrap (IntKind.i64.wrap (a.toNat : Int) * 2 ^ (min 8 IntKind.i64.bits))) (IntKind.i64.wrap (b.toNat : Int)) = ((a.toNat * 256 + b.toNat : Nat) : Int) := by
  have ha := a.toNat_lt
  have hb := b.toNat_lt
  have e : (2 : Int) ^ (min 8 IntKind.i64.bits) = 256 := by decide
  rw [e, i64_id (x := (a.toNat : Int)) (by omega) (by omega), i64_id (x := (b.toNat : Int)) (by omega) (by omega), i64_id (by omega) (by omega)]
  rw [show (a.toNat : Int) * 256 = ((a.toNat * 256 : Nat) : Int) by omega, Go.Lg.i63_or (by omega) (by omega), Nat.or_comm, or_low (i := 8) (by omega), Nat.add_comm]
theorem wrapR_ok {key text : List UInt8} {n : Nat} (h1 : 64 ≤ n) (h2 : n ≤ 8192) (h3 : text.length + 34 ≤ n) : wrapR key text n = (wshut key (wplain text n), 0) := by
  unfold wrapR
  rw [if_neg (by omega), if_neg (by omega)]; rfl
theorem blockR_ok {f : List UInt8 → List UInt8} {b : List UInt8} (h1 : 64 ≤ b.length) (h2 : b.length ≤ 8192) : blockR f b = (f b, 0) := by
  unfold blockR
  rw [if_neg (by omega), if_neg (by omega)]
theorem blockR_short {f : List UInt8 → List UInt8} {b : List UInt8} (h1 : b.length < 64) : blockR f b = ([], 3) := by
  unfold blockR
  rw [if_pos h1]
theorem blockR_long {f : List UInt8 → List UInt8} {b : List UInt8} (h2 : 8192 < b.length) : blockR f b = ([], 2) := by
  unfold blockR
  rw [if_neg (by omega), if_pos h2]

section
variable {B : Nat} {S R : Ents} {Q : Value → Ents → Prop}

theorem wwrapOkC {key text : List UInt8} {n : Nat} (hk : KsIn S) (h1 : key.length + 1000 ≤ big) (h2 : 64 ≤ n) (h3 : n ≤ 8192) (h4 : text.length + 34 ≤ n)
    (H : Q (.tuple #[.string (str (wshut key (wplain text n))), .int .i64 0]) S) :
    CallWp Tryz.prog B 52 #[.string (str key), .string (str text), .int .i64 (n : Int)] Q S := by
  have hb : big = 281474976710656 := rfl
  have e34 : IntKind.i64.wrap ((n : Int) - 34) = ((n - 34 : Nat) : Int) := by rw [i64_id] <;> omega
  have hpl := wplain_len h4
  refine CallWp.enter (args := [_, _, _]) Tryz.func52 rfl Tryz.ntmps52 rfl ?_
  refine Wp.seq (Wp.region ?_)
  refine OWp.evs 2 rfl ?_
  refine OWp.nil ?_
  refine Wp.seq ?_
  refine Wp.block ?_
  refine Wp.seq (Wp.region ?_)
  refine OWp.evs 3 rfl ?_
  refine OWp.nil ?_
  refine Wp.cond rfl (fun cc1 => absurd (of_decide_eq_true cc1) (by omega)) (fun cc1 => ?_)
  have cc1 := of_decide_eq_false cc1
  refine Wp.seq (Wp.region ?_)
  refine OWp.evs 3 rfl ?_
  refine OWp.part 15 rfl (fun cc2 => absurd (of_decide_eq_true cc2) (by omega)) (fun cc2 => ?_)
  have cc2 := of_decide_eq_false cc2
  refine OWp.evs 7 rfl ?_
  refine OWp.nil ?_
  refine Wp.cond rfl (fun cc3 => absurd (of_decide_eq_true cc3) (by rw [e34]; omega)) (fun cc3 => ?_)
  have cc3 := of_decide_eq_false cc3
  refine Wp.skip ?_
  refine Wp.seq (Wp.region ?_)
  refine OWp.evs 7 rfl ?_
  refine OWp.step rfl (Step.buildSlice rfl rfl rfl ?_); intro L hBL hLL
  refine OWp.gives rfl rfl (Gives.bytesToStr (F := (L, cel [.int .u8 (IntKind.u8.wrap ((text.length : Int).fdiv (2 ^ (min 8 IntKind.i64.bits)))), .int .u8 (IntKind.u8.wrap (text.length : Int))] 5) :: S) (l := [UInt8.ofNat (text.length / 256), UInt8.ofNat text.length]) (k := 2) rfl rfl rfl rfl rfl (two_bytes (u8_hi _) (u8_lo _))) (fun _ h => h) ?_
  refine OWp.evs 1 rfl ?_
  refine OWp.nil ?_
  refine Wp.dropAt 0 rfl ?_
  refine Wp.seq (Wp.region ?_)
  refine OWp.evs 1 rfl ?_
  refine OWp.step rfl (Step.call rfl rfl rfl rfl rfl rfl ((zerosEqC (n := 32) rfl (by decide) ?_)))
  refine OWp.evs 1 rfl ?_
  refine OWp.g rfl rfl (Gives.addStr rfl rfl rfl (by simp)) ?_
  refine OWp.evs 1 rfl ?_
  refine OWp.g rfl rfl (Gives.addStr rfl rfl rfl (by simp; omega)) ?_
  refine OWp.evs 5 rfl ?_
  refine OWp.step rfl (Step.call rfl rfl rfl rfl rfl rfl ((zerosEqC (n := n - 34 - text.length) (by rw [e34, i64_id] <;> omega) (by omega) ?_)))
  refine OWp.g rfl rfl (Gives.addStr rfl rfl rfl (by simp; omega)) ?_
  have ew : List.replicate 32 (0 : UInt8) ++ [UInt8.ofNat (text.length / 256), UInt8.ofNat text.length] ++ text ++ List.replicate (n - 34 - text.length) 0 = wplain text n := by simp [wplain]
  rw [ew]
  refine OWp.step rfl (Step.call rfl rfl rfl rfl rfl rfl ((wshutC hk h1 ?_)))
  rw [blockR_ok (by omega) (by omega)]
  refine OWp.evs 4 rfl ?_
  refine OWp.nil ?_
  refine Wp.ret ⟨trivial, _, ⟨_, _, rfl, rfl, _, _, rfl, rfl, rfl⟩, ?_⟩
  exact H
theorem wwrapC {key text : List UInt8} {n : Int} (hk : KsIn S) (h1 : key.length + 1000 ≤ big)
    (H : Q (.tuple #[.string (str (wrapR key text n).1), .int .i64 ((wrapR key text n).2 : Nat)]) S) :
    CallWp Tryz.prog B 52 #[.string (str key), .string (str text), .int .i64 n] Q S := by
  by_cases c1 : n < 64
  · have e : wrapR key text n = ([], 3) := by unfold wrapR; rw [if_pos c1]
    rw [e] at H
    refine CallWp.enter (args := [_, _, _]) Tryz.func52 rfl Tryz.ntmps52 rfl ?_
    refine Wp.seq (Wp.region ?_)
    refine OWp.evs 2 rfl ?_
    refine OWp.nil ?_
    refine Wp.seq ?_
    refine Wp.block ?_
    refine Wp.seq (Wp.region ?_)
    refine OWp.evs 3 rfl ?_
    refine OWp.nil ?_
    refine Wp.cond rfl (fun cc1 => ?_) (fun cc1 => absurd (of_decide_eq_false cc1) (by omega))
    have cc1 := of_decide_eq_true cc1
    refine Wp.seq (Wp.region ?_)
    refine OWp.evs 2 rfl ?_
    refine OWp.nil ?_
    refine Wp.ret ⟨trivial, _, ⟨_, _, rfl, rfl, _, _, rfl, rfl, rfl⟩, ?_⟩
    exact H
  by_cases c2 : 8192 < n
  · have e : wrapR key text n = ([], 2) := by unfold wrapR; rw [if_neg c1, if_pos (.inl c2)]
    rw [e] at H
    refine CallWp.enter (args := [_, _, _]) Tryz.func52 rfl Tryz.ntmps52 rfl ?_
    refine Wp.seq (Wp.region ?_)
    refine OWp.evs 2 rfl ?_
    refine OWp.nil ?_
    refine Wp.seq ?_
    refine Wp.block ?_
    refine Wp.seq (Wp.region ?_)
    refine OWp.evs 3 rfl ?_
    refine OWp.nil ?_
    refine Wp.cond rfl (fun cc1 => absurd (of_decide_eq_true cc1) (by omega)) (fun cc1 => ?_)
    have cc1 := of_decide_eq_false cc1
    refine Wp.seq (Wp.region ?_)
    refine OWp.evs 3 rfl ?_
    refine OWp.part 15 rfl (fun cc2 => ?_) (fun cc2 => absurd (of_decide_eq_false cc2) (by omega))
    have cc2 := of_decide_eq_true cc2
    refine OWp.evs 7 rfl ?_
    refine OWp.nil ?_
    refine Wp.cond rfl (fun _ => ?_) (fun c => nomatch c)
    refine Wp.seq (Wp.region ?_)
    refine OWp.evs 2 rfl ?_
    refine OWp.nil ?_
    refine Wp.ret ⟨trivial, _, ⟨_, _, rfl, rfl, _, _, rfl, rfl, rfl⟩, ?_⟩
    exact H
  obtain ⟨m, rfl⟩ : ∃ m : Nat, n = (m : Int) := ⟨n.toNat, by omega⟩
  by_cases c3 : (m : Int) - 34 < (text.length : Int)
  · have e : wrapR key text m = ([], 2) := by unfold wrapR; rw [if_neg c1, if_pos (.inr c3)]
    rw [e] at H
    have e34 : IntKind.i64.wrap ((m : Int) - 34) = (m : Int) - 34 := by rw [i64_id] <;> omega
    refine CallWp.enter (args := [_, _, _]) Tryz.func52 rfl Tryz.ntmps52 rfl ?_
    refine Wp.seq (Wp.region ?_)
    refine OWp.evs 2 rfl ?_
    refine OWp.nil ?_
    refine Wp.seq ?_
    refine Wp.block ?_
    refine Wp.seq (Wp.region ?_)
    refine OWp.evs 3 rfl ?_
    refine OWp.nil ?_
    refine Wp.cond rfl (fun cc1 => absurd (of_decide_eq_true cc1) (by omega)) (fun cc1 => ?_)
    have cc1 := of_decide_eq_false cc1
    refine Wp.seq (Wp.region ?_)
    refine OWp.evs 3 rfl ?_
    refine OWp.part 15 rfl (fun cc2 => absurd (of_decide_eq_true cc2) (by omega)) (fun cc2 => ?_)
    have cc2 := of_decide_eq_false cc2
    refine OWp.evs 7 rfl ?_
    refine OWp.nil ?_
    refine Wp.cond rfl (fun cc3 => ?_) (fun cc3 => absurd (of_decide_eq_false cc3) (by rw [e34]; omega))
    have cc3 := of_decide_eq_true cc3
    refine Wp.seq (Wp.region ?_)
    refine OWp.evs 2 rfl ?_
    refine OWp.nil ?_
    refine Wp.ret ⟨trivial, _, ⟨_, _, rfl, rfl, _, _, rfl, rfl, rfl⟩, ?_⟩
    exact H
  rw [wrapR_ok (by omega) (by omega) (by omega)] at H
  exact wwrapOkC hk h1 (by omega) (by omega) (by omega) H

theorem wunwrapC {key b : List UInt8} (hk : KsIn S) (h1 : key.length + 1000 ≤ big) 
    (H : Q (.tuple #[.string (str (unwrapR key b).1), .int .i64 ((unwrapR key b).2 : Nat)]) S) :
    CallWp Tryz.prog B 57 #[.string (str key), .string (str b)] Q S := by
  have hb : big = 281474976710656 := rfl
  by_cases c1 : b.length < 64
  · have e : unwrapR key b = ([], 3) := by unfold unwrapR; rw [if_pos c1]
    rw [e] at H
    refine CallWp.enter (args := [_, _]) Tryz.func57 rfl Tryz.ntmps57 rfl ?_
    refine Wp.seq (Wp.region ?_)
    refine OWp.evs 2 rfl ?_
    refine OWp.nil ?_
    refine Wp.seq (Wp.region ?_)
    refine OWp.evs 2 rfl ?_
    refine OWp.step rfl (Step.call rfl rfl rfl rfl rfl rfl ((wopenC hk h1 ?_)))
    rw [blockR_short c1]
    refine OWp.evs 5 rfl ?_
    refine OWp.nil ?_
    refine Wp.seq ?_
    refine Wp.seq (Wp.region ?_)
    refine OWp.evs 2 rfl ?_
    refine OWp.nil ?_
    refine Wp.cond rfl (fun cc1 => ?_) (fun cc1 => absurd (ndF cc1) (by decide))
    have cc1 := ndT cc1
    refine Wp.seq (Wp.region ?_)
    refine OWp.evs 3 rfl ?_
    refine OWp.nil ?_
    refine Wp.ret ⟨trivial, _, ⟨_, _, rfl, rfl, _, _, rfl, rfl, rfl⟩, ?_⟩
    exact H
  by_cases c2 : 8192 < b.length
  · have e : unwrapR key b = ([], 2) := by unfold unwrapR; rw [if_neg c1, if_pos c2]
    rw [e] at H
    refine CallWp.enter (args := [_, _]) Tryz.func57 rfl Tryz.ntmps57 rfl ?_
    refine Wp.seq (Wp.region ?_)
    refine OWp.evs 2 rfl ?_
    refine OWp.nil ?_
    refine Wp.seq (Wp.region ?_)
    refine OWp.evs 2 rfl ?_
    refine OWp.step rfl (Step.call rfl rfl rfl rfl rfl rfl ((wopenC hk h1 ?_)))
    rw [blockR_long c2]
    refine OWp.evs 5 rfl ?_
    refine OWp.nil ?_
    refine Wp.seq ?_
    refine Wp.seq (Wp.region ?_)
    refine OWp.evs 2 rfl ?_
    refine OWp.nil ?_
    refine Wp.cond rfl (fun cc1 => ?_) (fun cc1 => absurd (ndF cc1) (by decide))
    have cc1 := ndT cc1
    refine Wp.seq (Wp.region ?_)
    refine OWp.evs 3 rfl ?_
    refine OWp.nil ?_
    refine Wp.ret ⟨trivial, _, ⟨_, _, rfl, rfl, _, _, rfl, rfl, rfl⟩, ?_⟩
    exact H
  have e : unwrapR key b = unwrapT (wtext (wopen key b)) := by unfold unwrapR; rw [if_neg c1, if_neg c2]
  rw [e] at H
  clear e
  have hol := wopen_len key (b := b) (by omega)
  obtain ⟨o, ho⟩ : ∃ o, o = wopen key b := ⟨_, rfl⟩
  rw [← ho] at H hol
  obtain ⟨n, hn⟩ : ∃ n, n = (o.getD 32 0).toNat * 256 + (o.getD 33 0).toNat := ⟨_, rfl⟩
  have hn2 : n < 65536 := by have := (o.getD 32 0).toNat_lt; have := (o.getD 33 0).toNat_lt; omega
  have e34 : IntKind.i64.wrap ((o.length : Int) - 34) = ((o.length - 34 : Nat) : Int) := by rw [i64_id] <;> omega
  have en : IntKind.i64.wrap (34 + (n : Int)) = ((34 + n : Nat) : Int) := by rw [i64_id] <;> omega
  have hw : wtext o = if (o.take 32).all (· == 0) ∧ n ≤ o.length - 34 ∧ (o.drop (34 + n)).all (· == 0) then some ((o.drop 34).take n) else none := by
    unfold wtext; rw [hn]
  have hoff : ∀ l : List UInt8, l.length ≤ 8192 → l.length ≤ big := fun l h => by rw [hb]; omega
  refine CallWp.enter (args := [_, _]) Tryz.func57 rfl Tryz.ntmps57 rfl ?_
  refine Wp.seq (Wp.region ?_)
  refine OWp.evs 2 rfl ?_
  refine OWp.nil ?_
  refine Wp.seq (Wp.region ?_)
  refine OWp.evs 2 rfl ?_
  refine OWp.step rfl (Step.call rfl rfl rfl rfl rfl rfl ((wopenC hk h1 ?_)))
  rw [blockR_ok (by omega) (by omega), ← ho]
  dsimp only
  refine OWp.evs 5 rfl ?_
  refine OWp.nil ?_
  refine Wp.seq ?_
  refine Wp.seq (Wp.region ?_)
  refine OWp.evs 2 rfl ?_
  refine OWp.nil ?_
  refine Wp.cond rfl (fun cc1 => absurd (ndT cc1) (by decide)) (fun cc1 => ?_)
  have cc1 := ndF cc1
  refine Wp.skip ?_
  refine Wp.seq (Wp.regionDraw [0, 1, 2, 3, 4, 5, 6, 7, 8] [] rfl (by decide +kernel) ?_)
  refine DWp.evs 1 rfl ?_
  refine DWp.g rfl rfl rfl rfl (Gives.indexStr (b := (o.getD 32 0)) rfl rfl rfl rfl (by decide) (getD_some (by omega))) ?_
  refine DWp.evs 3 rfl ?_
  refine DWp.g rfl rfl rfl rfl (Gives.indexStr (b := (o.getD 33 0)) rfl rfl rfl rfl (by decide) (getD_some (by omega))) ?_
  refine DWp.evs 3 rfl ?_
  refine DWp.nil ?_
  refine Wp.weaken (E' := [(6, .string (str o)), (8, .int .i64 (n : Int))]) (.cons rfl (.cons' rfl (int_eq (by rw [hn]; exact join_hl _ _)) (.nil _))) (fun _ h => h) ?_
  refine Wp.seq ?_
  refine Wp.seq (Wp.region ?_)
  refine OWp.evs 1 rfl ?_
  refine OWp.g rfl rfl (Gives.sliceStr (l := 0) (h' := 32) rfl rfl rfl rfl ⟨_, _, rfl, rfl⟩ (by omega) (by omega)) ?_
  refine OWp.step rfl (Step.call rfl rfl rfl rfl rfl rfl ((trimC (l := o.take 32) (hoff _ (by rw [List.length_take]; omega)) ?_)))
  refine OWp.evs 2 rfl ?_
  refine OWp.part 30 rfl (fun k1 => ?_) (fun k1 => ?_)
  · have k1 := ndT k1
    refine OWp.evs 14 rfl ?_
    refine OWp.nil ?_
    refine Wp.cond rfl (fun _ => ?_) (fun c => nomatch c)
    refine Wp.seq (Wp.region ?_)
    refine OWp.evs 2 rfl ?_
    refine OWp.nil ?_
    refine Wp.ret ⟨trivial, _, ⟨_, _, rfl, rfl, _, _, rfl, rfl, rfl⟩, ?_⟩
    have : ¬ (o.take 32).all (· == 0) = true := fun h => k1 (trim_all h)
    rw [hw, if_neg (fun h => this h.1)] at H
    exact H
  have k1 := ndF k1
  have k1' := trim_nil.1 k1
  refine OWp.evs 7 rfl ?_
  refine OWp.part 37 rfl (fun k2 => ?_) (fun k2 => ?_)
  · have k2 := of_decide_eq_true k2
    refine OWp.evs 7 rfl ?_
    refine OWp.nil ?_
    refine Wp.cond rfl (fun _ => ?_) (fun c => nomatch c)
    refine Wp.seq (Wp.region ?_)
    refine OWp.evs 2 rfl ?_
    refine OWp.nil ?_
    refine Wp.ret ⟨trivial, _, ⟨_, _, rfl, rfl, _, _, rfl, rfl, rfl⟩, ?_⟩
    rw [e34] at k2
    rw [hw, if_neg (fun h => by omega)] at H
    exact H
  have k2 := of_decide_eq_false k2
  rw [e34] at k2
  refine OWp.evs 3 rfl ?_
  refine OWp.g rfl rfl (Gives.sliceStr (l := (34 + n)) (h' := o.length) rfl rfl rfl ⟨_, _, rfl, en⟩ rfl (by omega) (by omega)) ?_
  have ed : (o.drop (34 + n)).take (o.length - (34 + n)) = o.drop (34 + n) := List.take_of_length_le (by rw [List.length_drop]; exact Nat.le_refl _)
  rw [ed]
  refine OWp.step rfl (Step.call rfl rfl rfl rfl rfl rfl ((trimC (l := o.drop (34 + n)) (hoff _ (by rw [List.length_drop]; omega)) ?_)))
  refine OWp.evs 2 rfl ?_
  refine OWp.nil ?_
  refine Wp.cond rfl (fun k3 => ?_) (fun k3 => ?_)
  · have k3 := ndT k3
    refine Wp.seq (Wp.region ?_)
    refine OWp.evs 2 rfl ?_
    refine OWp.nil ?_
    refine Wp.ret ⟨trivial, _, ⟨_, _, rfl, rfl, _, _, rfl, rfl, rfl⟩, ?_⟩
    have : ¬ (o.drop (34 + n)).all (· == 0) = true := fun h => k3 (trim_all h)
    rw [hw, if_neg (fun h => this h.2.2)] at H
    exact H
  have k3 := ndF k3
  have k3' := trim_nil.1 k3
  refine Wp.skip ?_
  refine Wp.seq (Wp.region ?_)
  refine OWp.evs 3 rfl ?_
  refine OWp.g rfl rfl (Gives.sliceStr (l := 34) (h' := 34 + n) rfl rfl rfl ⟨_, _, rfl, rfl⟩ ⟨_, _, rfl, en⟩ (by omega) (by omega)) ?_
  refine OWp.evs 2 rfl ?_
  refine OWp.nil ?_
  refine Wp.ret ⟨trivial, _, ⟨_, _, rfl, rfl, _, _, rfl, rfl, rfl⟩, ?_⟩
  rw [hw, if_pos ⟨k1', by omega, k3'⟩] at H
  rw [Nat.add_sub_cancel_left]
  exact H
end
end Go.Proofs.D

namespace Go.Proofs.D
open Go.Lg Go.Sha
set_option maxRecDepth 100000

def i64s (l : List Nat) : List Value := l.map fun (x : Nat) => .int .i64 (x : Int)
theorem i64s_get {l : List Nat} {i : Nat} (h : i < l.length) : (i64s l)[i]? = some (.int .i64 (l[i] : Nat)) := by simp [i64s, h]
theorem quo_byte (n : Nat) (h : n ≤ 281474976710656) : IntKind.u8.wrap (IntKind.i64.wrap (((n : Nat) : Int).tdiv 256)) = ((UInt8.ofNat (n / 256)).toNat : Int) := by
  rw [Int.tdiv_eq_ediv_of_nonneg (by omega), i64_id (by omega) (by omega), ← u8_lo]; rfl
theorem rem_byte (n : Nat) : IntKind.u8.wrap (((n : Nat) : Int).tmod 256) = ((UInt8.ofNat n).toNat : Int) := by
  rw [Int.tmod_eq_emod_of_nonneg (by omega), IntKind.wrap_u8, UInt8.toNat_ofNat']; omega
def mayR (n : Int) : Nat := if n < 64 then 3 else if 8192 < n then 2 else 0
section
variable {B : Nat} {S R : Ents} {Q : Value → Ents → Prop}

theorem rmayC {n : Int} (H : Q (.int .i64 (mayR n : Nat)) S) : CallWp Tryz.prog B 87 #[.int .i64 n] Q S := by
  by_cases c1 : n < 64
  · have e : mayR n = 3 := by unfold mayR; rw [if_pos c1]
    rw [e] at H
    refine CallWp.enter (args := [_]) Tryz.func87 rfl Tryz.ntmps87 rfl ?_
    refine Wp.seq (Wp.region ?_)
    refine OWp.evs 1 rfl ?_
    refine OWp.nil ?_
    refine Wp.seq ?_
    refine Wp.seq (Wp.region ?_)
    refine OWp.evs 2 rfl ?_
    refine OWp.nil ?_
    refine Wp.cond rfl (fun cc1 => ?_) (fun cc1 => absurd (of_decide_eq_false cc1) (by omega))
    have cc1 := of_decide_eq_true cc1
    refine Wp.seq (Wp.region ?_)
    refine OWp.evs 1 rfl ?_
    refine OWp.nil ?_
    refine Wp.ret ⟨trivial, _, ⟨_, _, rfl, rfl, rfl⟩, ?_⟩
    exact H
  by_cases c2 : 8192 < n
  · have e : mayR n = 2 := by unfold mayR; rw [if_neg c1, if_pos c2]
    rw [e] at H
    refine CallWp.enter (args := [_]) Tryz.func87 rfl Tryz.ntmps87 rfl ?_
    refine Wp.seq (Wp.region ?_)
    refine OWp.evs 1 rfl ?_
    refine OWp.nil ?_
    refine Wp.seq ?_
    refine Wp.seq (Wp.region ?_)
    refine OWp.evs 2 rfl ?_
    refine OWp.nil ?_
    refine Wp.cond rfl (fun cc1 => absurd (of_decide_eq_true cc1) (by omega)) (fun cc1 => ?_)
    have cc1 := of_decide_eq_false cc1
    refine Wp.skip ?_
    refine Wp.seq ?_
    refine Wp.seq (Wp.region ?_)
    refine OWp.evs 2 rfl ?_
    refine OWp.nil ?_
    refine Wp.cond rfl (fun cc2 => ?_) (fun cc2 => absurd (of_decide_eq_false cc2) (by omega))
    have cc2 := of_decide_eq_true cc2
    refine Wp.seq (Wp.region ?_)
    refine OWp.evs 1 rfl ?_
    refine OWp.nil ?_
    refine Wp.ret ⟨trivial, _, ⟨_, _, rfl, rfl, rfl⟩, ?_⟩
    exact H
  have e : mayR n = 0 := by unfold mayR; rw [if_neg c1, if_neg c2]
  rw [e] at H
  refine CallWp.enter (args := [_]) Tryz.func87 rfl Tryz.ntmps87 rfl ?_
  refine Wp.seq (Wp.region ?_)
  refine OWp.evs 1 rfl ?_
  refine OWp.nil ?_
  refine Wp.seq ?_
  refine Wp.seq (Wp.region ?_)
  refine OWp.evs 2 rfl ?_
  refine OWp.nil ?_
  refine Wp.cond rfl (fun cc1 => absurd (of_decide_eq_true cc1) (by omega)) (fun cc1 => ?_)
  have cc1 := of_decide_eq_false cc1
  refine Wp.skip ?_
  refine Wp.seq ?_
  refine Wp.seq (Wp.region ?_)
  refine OWp.evs 2 rfl ?_
  refine OWp.nil ?_
  refine Wp.cond rfl (fun cc2 => absurd (of_decide_eq_true cc2) (by omega)) (fun cc2 => ?_)
  have cc2 := of_decide_eq_false cc2
  refine Wp.skip ?_
  refine Wp.seq (Wp.region ?_)
  refine OWp.evs 1 rfl ?_
  refine OWp.nil ?_
  refine Wp.ret ⟨trivial, _, ⟨_, _, rfl, rfl, rfl⟩, ?_⟩
  exact H
set_option maxHeartbeats 2000000 in
theorem rturnedC {key block : List UInt8} {v : Value} {l : List Nat} (hl : Reads S 1 v l.length (i64s l)) (h4 : ∀ i ∈ l, i < 4) (hll : l.length ≤ 1000) (hk : key.length + 2000 ≤ big) (h1 : 64 ≤ block.length) (h2 : block.length ≤ 8192) (H : Q (.string (str (whole (l.foldl (wstep key) (halves block))))) S) :
    CallWp Tryz.prog B 89 #[.string (str key), .string (str block), v] Q S := by
  have hb : big = 281474976710656 := rfl
  obtain ⟨va, vc, rfl⟩ := hl.form
  obtain ⟨dk, hdk⟩ : ∃ dk, dk = derive key wlabel 128 := ⟨_, rfl⟩
  have hdl : dk.length = 128 := by rw [hdk]; exact expand_len _ _ _
  have x0 := halves_halved (b := block) (by omega)
  refine CallWp.dropRet ?_
  refine CallWp.enter (args := [_, _, _]) Tryz.func89 rfl Tryz.ntmps89 rfl ?_
  refine Wp.seq (Wp.region ?_)
  refine OWp.evs 1 rfl ?_
  refine OWp.nil ?_
  refine Wp.seq (Wp.region ?_)
  refine OWp.evs 1 rfl ?_
  refine OWp.step rfl (Step.call rfl rfl rfl rfl rfl rfl ((rkeyC (label := wlabel) (n := 128) (by decide) hk (by rw [hb]; decide) ?_)))
  rw [← hdk]
  refine OWp.evs 1 rfl ?_
  refine OWp.nil ?_
  refine Wp.seq (Wp.regionDraw [0, 1, 2, 3, 4, 5] [] rfl (by decide +kernel) ?_)
  refine DWp.evs 1 rfl ?_
  refine DWp.g rfl rfl rfl rfl (Gives.sliceStr (l := 0) (h' := 32) rfl rfl rfl rfl ⟨_, _, rfl, rfl⟩ (by omega) (by omega)) ?_
  refine DWp.evs 1 rfl ?_
  refine DWp.g rfl rfl rfl rfl (Gives.sliceStr (l := 32) (h' := block.length) rfl rfl rfl ⟨_, _, rfl, rfl⟩ rfl (by omega) (by omega)) ?_
  refine DWp.evs 2 rfl ?_
  refine DWp.nil ?_
  refine Wp.seq ?_
  refine Wp.seq (Wp.region ?_)
  refine OWp.evs 1 rfl ?_
  refine OWp.nil ?_
  refine Wp.block ?_
  refine Wp.loopS (α := Nat × Ents) (fun y => l.length - y.1) (fun y => [(2, .slice va l.length vc), (7, .string (str dk)), (8, .string (str ((l.take y.1).foldl (wstep key) (halves block)).1)), (9, .string (str ((l.take y.1).foldl (wstep key) (halves block)).2)), (10, .int .i64 (y.1 : Int))]) (fun y => y.2 ++ S) (fun y => y.1 ≤ l.length) (0, []) ?_ (.refl _) (Nat.zero_le _) ?_
  · exact .cons rfl (.cons rfl (.cons rfl (.cons' rfl (by have : (block.drop 32).take (block.length - 32) = block.drop 32 := List.take_of_length_le (by rw [List.length_drop]; exact Nat.le_refl _); rw [this]; rfl) (.cons rfl (.nil _)))))
  rintro ⟨j, es⟩ hj
  simp only at hj ⊢
  refine Wp.seq ?_
  refine Wp.seq (Wp.region ?_)
  refine OWp.evs 4 rfl ?_
  refine OWp.nil ?_
  refine Wp.cond rfl (fun h5 => ?_) (fun h5 => ?_)
  · have h5 := of_decide_eq_true h5
    have hj2 : j < l.length := by omega
    have hxj := wfold_halved (key := key) (l.take j) x0
    have hnext : (l.take (j + 1)).foldl (wstep key) (halves block) = wstep key ((l.take j).foldl (wstep key) (halves block)) l[j] := by rw [List.take_succ_eq_append_getElem hj2, List.foldl_append]; rfl
    generalize (l.take j).foldl (wstep key) (halves block) = x at hxj hnext ⊢
    obtain ⟨b1, o1, c1, l1, t1, f1, hv1, hmem, _, hg1⟩ := hl.get1 (by omega)
    cases hv1
    have gi : l1[o1 + j * 1]? = some (.int .i64 (l[j] : Nat)) := (hg1 j hj2).trans (i64s_get hj2)
    have hs4 := h4 l[j] (List.getElem_mem hj2)
    generalize l[j] = s at gi hs4 hnext
    have e32 : IntKind.i64.wrap (32 * (s : Int)) = ((32 * s : Nat) : Int) := by rw [i64_id] <;> omega
    have hkl := wkey_len key hs4
    have hwk : (dk.drop (32 * s)).take (32 * s + 32 - 32 * s) = wkey key s := by rw [Nat.add_sub_cancel_left, hdk]; rfl
    have hl1' := hxj.1
    have hl2' := hxj.2
    refine Wp.skip ?_
    refine Wp.seq ?_
    refine Wp.block ?_
    refine Wp.seq (Wp.regionDraw [0, 1, 2, 3, 4, 5, 6, 7, 8, 9, 10, 11, 12, 13] [] rfl (by decide +kernel) ?_)
    refine DWp.evs 3 rfl ?_
    refine DWp.g rfl rfl rfl rfl (Gives.indexAddrSlice (j) rfl rfl rfl rfl rfl rfl (by omega)) ?_
    refine DWp.load (List.mem_append_right _ hmem) rfl rfl rfl rfl rfl rfl gi ?_
    refine DWp.evs 3 rfl ?_
    refine DWp.g rfl rfl rfl rfl (Gives.indexAddrSlice (j) rfl rfl rfl rfl rfl rfl (by omega)) ?_
    refine DWp.load (List.mem_append_right _ hmem) rfl rfl rfl rfl rfl rfl gi ?_
    refine DWp.evs 2 rfl ?_
    refine DWp.g rfl rfl rfl rfl (Gives.sliceStr (l := (32 * s)) (h' := (32 * s + 32)) rfl rfl rfl ⟨_, _, rfl, e32⟩ ⟨_, _, rfl, by rw [e32, i64_id] <;> omega⟩ (by omega) (by omega)) ?_
    rw [hwk]
    refine DWp.evs 1 rfl ?_
    refine DWp.nil ?_
    refine Wp.seq (Wp.region ?_)
    refine OWp.evs 2 rfl ?_
    refine OWp.g rfl rfl (Gives.indexAddrSlice (j) rfl rfl rfl rfl rfl rfl (by omega)) ?_
    refine OWp.load (List.mem_append_right _ hmem) rfl rfl rfl rfl gi ?_
    refine OWp.evs 2 rfl ?_
    refine OWp.nil ?_
    refine Wp.cond rfl (fun h6 => ?_) (fun h6 => ?_)
    · have h6 := of_decide_eq_true h6
      have hev : s % 2 = 0 := by
        have h7 : ((s : Int)).tmod 2 = 0 := h6
        rw [Int.tmod_eq_emod_of_nonneg (by omega)] at h7; omega
      have hw : wstep key x s = (x.1, xors x.2 (stream (xors x.1 (wkey key s)) zeros12 0 x.2.length)) := by unfold wstep wflow; rw [if_pos hev, xors_comm x.1]
      refine Wp.regionDraw [0, 1, 2, 6, 7, 11, 11, 11, 11, 11, 11] [3, 4, 8, 9] rfl (by decide +kernel) ?_
      refine DWp.evs 5 rfl ?_
      refine DWp.fork (i := 3) (j := 4) (r1 := [4, 5, 8, 9, 10]) (r2 := [5, 3, 8, 9, 10]) (by decide +kernel) rfl rfl rfl rfl (by decide +kernel) (by decide +kernel) rfl rfl ?_ ?_
      · skip
        refine (Step.call rfl rfl rfl rfl rfl rfl ((rwithC (a := x.1) (b := wkey key s) (by omega) (by omega) ?_)))
        refine ⟨fun _ hy => hy, ?_⟩
        refine DWp.stepAll rfl rfl rfl rfl (Step.makeSlice (len := 12) (cap := 12) rfl rfl rfl rfl rfl rfl (by decide) rfl rfl (Nat.le_refl _) (by decide) (by decide) ?_)
        intro Lz hBz _
        refine DWp.gives rfl rfl rfl rfl (Gives.bytesToStr (F := [(Lz, cel (zeros (cellsOf (Value.int .u8 0)) 12) 5)]) (l := zeros12) (k := 12) rfl rfl rfl rfl rfl (bc_reads (x := zeros12) rfl (.head _))) (mem1 (.head _)) ?_
        refine DWp.stepGrow rfl rfl rfl (Step.call rfl rfl rfl rfl rfl rfl ((rstreamC (nonce := zeros12) (n := x.2.length) (by rw [xors_len (by omega)]; exact hl1') rfl (by omega) (by omega) ?_)))
        refine ⟨fun _ hy => hy, ?_⟩
        refine DWp.stepGrow rfl rfl rfl (Step.call rfl rfl rfl rfl rfl rfl ((rwithC (a := x.2) (by rw [stream_len]; omega) (by omega) ?_)))
        refine ⟨fun _ hy => hy, ?_⟩
        refine DWp.evs 1 rfl ?_
        refine DWp.nil ?_
        refine Wp.region ?_
        refine OWp.evs 3 rfl ?_
        refine OWp.nil ?_
        exact ⟨(j + 1, _ :: es), by simp only; omega, by simp only; omega, .cons rfl (.cons rfl (.cons' rfl (by simp only; rw [hnext, hw]) (.cons' rfl (by simp only; rw [hnext, hw]) (.cons' rfl (int_eq (i64_inc (by omega))) (.nil _))))), .refl _⟩
      refine (Step.makeSlice (len := 12) (cap := 12) rfl rfl rfl rfl rfl rfl (by decide) rfl rfl (Nat.le_refl _) (by decide) (by decide) ?_)
      intro Lz hBz _
      refine ⟨fun _ hy => .tail _ hy, ?_⟩
      refine DWp.gives rfl rfl rfl rfl (Gives.bytesToStr (F := [(Lz, cel (zeros (cellsOf (Value.int .u8 0)) 12) 5)]) (l := zeros12) (k := 12) rfl rfl rfl rfl rfl (bc_reads (x := zeros12) rfl (.head _))) (mem1 (.head _)) ?_
      refine DWp.stepGrow rfl rfl rfl (Step.call rfl rfl rfl rfl rfl rfl ((rwithC (a := x.1) (b := wkey key s) (by omega) (by omega) ?_)))
      refine ⟨fun _ hy => hy, ?_⟩
      refine DWp.stepGrow rfl rfl rfl (Step.call rfl rfl rfl rfl rfl rfl ((rstreamC (nonce := zeros12) (n := x.2.length) (by rw [xors_len (by omega)]; exact hl1') rfl (by omega) (by omega) ?_)))
      refine ⟨fun _ hy => hy, ?_⟩
      refine DWp.stepGrow rfl rfl rfl (Step.call rfl rfl rfl rfl rfl rfl ((rwithC (a := x.2) (by rw [stream_len]; omega) (by omega) ?_)))
      refine ⟨fun _ hy => hy, ?_⟩
      refine DWp.evs 1 rfl ?_
      refine DWp.nil ?_
      refine Wp.region ?_
      refine OWp.evs 3 rfl ?_
      refine OWp.nil ?_
      exact ⟨(j + 1, _ :: es), by simp only; omega, by simp only; omega, .cons rfl (.cons rfl (.cons' rfl (by simp only; rw [hnext, hw]) (.cons' rfl (by simp only; rw [hnext, hw]) (.cons' rfl (int_eq (i64_inc (by omega))) (.nil _))))), .refl _⟩
    have h6 := of_decide_eq_false h6
    have hodd : ¬ s % 2 = 0 := fun e => h6 (by show ((s : Int)).tmod 2 = 0; rw [Int.tmod_eq_emod_of_nonneg (by omega)]; omega)
    have hw : wstep key x s = (xors x.1 (hmac (wkey key s) x.2), x.2) := by unfold wstep wpress; rw [if_neg hodd]
    refine Wp.region ?_
    refine OWp.evs 3 rfl ?_
    refine OWp.step rfl (Step.call rfl rfl rfl rfl rfl rfl ((rtagC (by rw [hkl, hb]; decide) (by rw [hb]; omega) ?_)))
    refine OWp.step rfl (Step.call rfl rfl rfl rfl rfl rfl ((rwithC (a := x.1) (by rw [hmac_len]; omega) (by omega) ?_)))
    refine OWp.evs 1 rfl ?_
    refine OWp.nil ?_
    refine Wp.region ?_
    refine OWp.evs 3 rfl ?_
    refine OWp.nil ?_
    exact ⟨(j + 1, es), by simp only; omega, by simp only; omega, .cons rfl (.cons rfl (.cons' rfl (by simp only; rw [hnext, hw]) (.cons' rfl (by simp only; rw [hnext, hw]) (.cons' rfl (int_eq (i64_inc (by omega))) (.nil _))))), .refl _⟩
  have h5 := of_decide_eq_false h5
  obtain rfl : j = l.length := by omega
  have hxj := wfold_halved (key := key) l x0
  have hl1' := hxj.1
  have hl2' := hxj.2
  rw [List.take_length]
  refine Wp.exit ?_
  refine Wp.seq (Wp.region ?_)
  refine OWp.evs 2 rfl ?_
  refine OWp.g rfl rfl (Gives.addStr rfl rfl rfl (by omega)) ?_
  refine OWp.evs 1 rfl ?_
  refine OWp.nil ?_
  refine Wp.ret ⟨trivial, _, ⟨_, _, rfl, rfl, rfl⟩, ?_⟩
  exact ⟨S, List.sublist_append_right _ _, H⟩
theorem rshutC {key block : List UInt8} (hk : key.length + 2000 ≤ big) (H : Q (.tuple #[.string (str (blockR (wshut key) block).1), .int .i64 ((blockR (wshut key) block).2 : Nat)]) S) :
    CallWp Tryz.prog B 55 #[.string (str key), .string (str block)] Q S := by
  by_cases c1 : block.length < 64
  · have e : mayR block.length = 3 := by unfold mayR; rw [if_pos (by omega)]
    rw [blockR_short c1] at H
    refine CallWp.enter (args := [_, _]) Tryz.func55 rfl Tryz.ntmps55 rfl ?_
    refine Wp.seq (Wp.region ?_)
    refine OWp.evs 2 rfl ?_
    refine OWp.nil ?_
    refine Wp.seq ?_
    refine Wp.seq (Wp.region ?_)
    refine OWp.evs 2 rfl ?_
    refine OWp.step rfl (Step.call rfl rfl rfl rfl rfl rfl ((rmayC ?_)))
    rw [e]
    refine OWp.evs 1 rfl ?_
    refine OWp.nil ?_
    refine Wp.seq (Wp.region ?_)
    refine OWp.evs 2 rfl ?_
    refine OWp.nil ?_
    refine Wp.cond rfl (fun cc1 => ?_) (fun cc1 => absurd (ndF cc1) (by decide))
    have cc1 := ndT cc1
    refine Wp.seq (Wp.region ?_)
    refine OWp.evs 3 rfl ?_
    refine OWp.nil ?_
    refine Wp.ret ⟨trivial, _, ⟨_, _, rfl, rfl, _, _, rfl, rfl, rfl⟩, ?_⟩
    exact H
  by_cases c2 : 8192 < block.length
  · have e : mayR block.length = 2 := by unfold mayR; rw [if_neg (by omega), if_pos (by omega)]
    rw [blockR_long c2] at H
    refine CallWp.enter (args := [_, _]) Tryz.func55 rfl Tryz.ntmps55 rfl ?_
    refine Wp.seq (Wp.region ?_)
    refine OWp.evs 2 rfl ?_
    refine OWp.nil ?_
    refine Wp.seq ?_
    refine Wp.seq (Wp.region ?_)
    refine OWp.evs 2 rfl ?_
    refine OWp.step rfl (Step.call rfl rfl rfl rfl rfl rfl ((rmayC ?_)))
    rw [e]
    refine OWp.evs 1 rfl ?_
    refine OWp.nil ?_
    refine Wp.seq (Wp.region ?_)
    refine OWp.evs 2 rfl ?_
    refine OWp.nil ?_
    refine Wp.cond rfl (fun cc1 => ?_) (fun cc1 => absurd (ndF cc1) (by decide))
    have cc1 := ndT cc1
    refine Wp.seq (Wp.region ?_)
    refine OWp.evs 3 rfl ?_
    refine OWp.nil ?_
    refine Wp.ret ⟨trivial, _, ⟨_, _, rfl, rfl, _, _, rfl, rfl, rfl⟩, ?_⟩
    exact H
  have e : mayR block.length = 0 := by unfold mayR; rw [if_neg (by omega), if_neg (by omega)]
  rw [blockR_ok (by omega) (by omega), wshut_fold] at H
  refine CallWp.enter (args := [_, _]) Tryz.func55 rfl Tryz.ntmps55 rfl ?_
  refine Wp.seq (Wp.region ?_)
  refine OWp.evs 2 rfl ?_
  refine OWp.nil ?_
  refine Wp.seq ?_
  refine Wp.seq (Wp.region ?_)
  refine OWp.evs 2 rfl ?_
  refine OWp.step rfl (Step.call rfl rfl rfl rfl rfl rfl ((rmayC ?_)))
  rw [e]
  refine OWp.evs 1 rfl ?_
  refine OWp.nil ?_
  refine Wp.seq (Wp.region ?_)
  refine OWp.evs 2 rfl ?_
  refine OWp.nil ?_
  refine Wp.cond rfl (fun cc1 => absurd (ndT cc1) (by decide)) (fun cc1 => ?_)
  have cc1 := ndF cc1
  refine Wp.skip ?_
  refine Wp.seq (Wp.region ?_)
  refine OWp.evs 2 rfl ?_
  refine OWp.step rfl (Step.buildSlice rfl rfl rfl ?_); intro L hBL hLL
  refine OWp.step rfl (Step.call rfl rfl rfl rfl rfl rfl ((rturnedC (l := [0, 1, 2, 3]) (Reads.row (k := 4) (sz := 1) (.head _) (Nat.le_of_ble_eq_true rfl)) (by decide) (by decide) hk (by omega) (by omega) ?_)))
  refine OWp.evs 2 rfl ?_
  refine OWp.nil ?_
  refine Wp.dropAt 0 rfl ?_
  refine Wp.ret ⟨trivial, _, ⟨_, _, rfl, rfl, _, _, rfl, rfl, rfl⟩, ?_⟩
  exact H
theorem rplainC {text : List UInt8} {n : Nat} (h1 : 64 ≤ n) (h2 : n ≤ 8192) (h3 : text.length + 34 ≤ n) (H : Q (.string (str (wplain text n))) S) :
    CallWp Tryz.prog B 88 #[.string (str text), .int .i64 (n : Int)] Q S := by
  refine CallWp.dropRet ?_
  refine CallWp.enter (args := [_, _]) Tryz.func88 rfl Tryz.ntmps88 rfl ?_
  refine Wp.seq (Wp.region ?_)
  refine OWp.evs 1 rfl ?_
  refine OWp.nil ?_
  refine Wp.seq (Wp.region ?_)
  refine OWp.evs 1 rfl ?_
  refine OWp.step rfl (Step.makeSlice (len := n) (cap := n) rfl rfl rfl rfl rfl rfl (by decide) rfl rfl (Nat.le_refl _) (by show 1 * n ≤ _; omega) (by omega) ?_)
  intro L hBL _
  have ez : zeros (cellsOf (Value.int .u8 0)) n = byteCells (List.replicate n 0) := zeros_u8 n
  rw [ez]
  refine OWp.evs 1 rfl ?_
  refine OWp.nil ?_
  refine Wp.seq (Wp.region ?_)
  refine OWp.evs 5 rfl ?_
  refine OWp.g rfl rfl (Gives.indexAddrSlice (32) rfl rfl rfl rfl rfl rfl (by omega)) ?_
  refine OWp.step rfl (Step.storeAs 0 (byteCells ((List.replicate n (0 : UInt8)).set 32 (UInt8.ofNat (text.length / 256)))) rfl rfl rfl rfl rfl hBL rfl (Unfz.zero _) rfl (by rw [byteCells_length, List.length_replicate]; show 0 + 32 * 1 + 1 ≤ _; omega) (bc_setN (by rw [List.length_replicate]; omega) (quo_byte _ (by omega)) rfl) rfl ?_)
  refine OWp.nil ?_
  refine Wp.seq (Wp.region ?_)
  refine OWp.evs 5 rfl ?_
  refine OWp.g rfl rfl (Gives.indexAddrSlice (33) rfl rfl rfl rfl rfl rfl (by omega)) ?_
  refine OWp.step rfl (Step.storeAs 0 (byteCells (plainAt text n 0)) rfl rfl rfl rfl rfl hBL rfl (Unfz.zero _) rfl (by rw [byteCells_length, List.length_set, List.length_replicate]; show 0 + 33 * 1 + 1 ≤ _; omega) (by rw [← plainAt_first text (by omega)]; exact bc_setN (by rw [List.length_set, List.length_replicate]; omega) (rem_byte _) rfl) rfl ?_)
  refine OWp.nil ?_
  refine Wp.seq ?_
  refine Wp.seq (Wp.region ?_)
  refine OWp.evs 1 rfl ?_
  refine OWp.nil ?_
  refine Wp.block ?_
  refine Wp.loopS (α := Nat) (fun i => text.length - i) (fun i => [(0, .string (str text)), (1, .int .i64 (n : Int)), (5, .slice (some ⟨L, 0, none⟩) n n), (6, .int .i64 (i : Int))]) (fun i => (L, cel (byteCells (plainAt text n i)) 5) :: S) (fun i => i ≤ text.length) 0 ?_ (.refl _) (Nat.zero_le _) ?_
  · exact .cons rfl (.cons rfl (.cons rfl (.cons rfl (.nil _))))
  intro i hi
  refine Wp.seq ?_
  refine Wp.seq (Wp.region ?_)
  refine OWp.evs 4 rfl ?_
  refine OWp.nil ?_
  refine Wp.cond rfl (fun h4 => ?_) (fun h4 => ?_)
  · have h4 := of_decide_eq_true h4
    have hi2 : i < text.length := by omega
    have hpl := plainAt_len hi h3
    refine Wp.skip ?_
    refine Wp.seq ?_
    refine Wp.block ?_
    refine Wp.region ?_
    refine OWp.evs 5 rfl ?_
    refine OWp.g rfl rfl (Gives.indexStr (b := (text.getD i 0)) rfl rfl rfl rfl (by omega) (getD_some (by omega))) ?_
    refine OWp.g rfl rfl (Gives.indexAddrSlice ((34 + i)) rfl rfl rfl rfl rfl (by rw [i64_id] <;> omega) (by omega)) ?_
    refine OWp.step rfl (Step.storeAs 0 (byteCells (plainAt text n (i + 1))) rfl rfl rfl rfl rfl hBL rfl (Unfz.zero _) rfl (by rw [byteCells_length, hpl]; show 0 + (34 + i) * 1 + 1 ≤ _; omega) (by rw [← plainAt_set hi2 h3]; exact bc_setN (by omega) rfl (by show 0 + (34 + i) * 1 = 34 + i; omega)) rfl ?_)
    refine OWp.nil ?_
    refine Wp.region ?_
    refine OWp.evs 3 rfl ?_
    refine OWp.nil ?_
    exact ⟨i + 1, by omega, by omega, .cons rfl (.cons rfl (.cons rfl (.cons' rfl (int_eq (i64_inc (by omega))) (.nil _)))), .refl _⟩
  have h4 := of_decide_eq_false h4
  obtain rfl : i = text.length := by omega
  rw [plainAt_all]
  refine Wp.exit ?_
  refine Wp.seq (Wp.region ?_)
  refine OWp.evs 1 rfl ?_
  refine OWp.gives rfl rfl (Gives.bytesToStr (F := [(L, cel (byteCells (wplain text n)) 5)]) (l := wplain text n) (k := n) rfl rfl rfl rfl rfl (bc_reads (wplain_len h3) (.head _))) (mem1 (.head _)) ?_
  refine OWp.evs 1 rfl ?_
  refine OWp.nil ?_
  refine Wp.ret ⟨trivial, _, ⟨_, _, rfl, rfl, rfl⟩, ?_⟩
  exact ⟨S, List.sublist_cons_self _ _, H⟩
def textT : Option (List UInt8) → List UInt8 × Bool
  | some t => (t, true)
  | none => ([], false)
end
end Go.Proofs.D

namespace Go.Proofs.D
open Go.Lg Go.Sha
set_option maxRecDepth 100000
section
variable {B : Nat} {S R : Ents} {Q : Value → Ents → Prop}

theorem rwrapC {key text : List UInt8} {n : Int} (hk : key.length + 2000 ≤ big) (H : Q (.tuple #[.string (str (wrapR key text n).1), .int .i64 ((wrapR key text n).2 : Nat)]) S) :
    CallWp Tryz.prog B 54 #[.string (str key), .string (str text), .int .i64 n] Q S := by
  by_cases c1 : n < 64
  · have e : wrapR key text n = ([], 3) := by unfold wrapR; rw [if_pos c1]
    have e2 : mayR n = 3 := by unfold mayR; rw [if_pos c1]
    rw [e] at H
    refine CallWp.enter (args := [_, _, _]) Tryz.func54 rfl Tryz.ntmps54 rfl ?_
    refine Wp.seq (Wp.region ?_)
    refine OWp.evs 2 rfl ?_
    refine OWp.nil ?_
    refine Wp.seq ?_
    refine Wp.seq (Wp.region ?_)
    refine OWp.evs 1 rfl ?_
    refine OWp.step rfl (Step.call rfl rfl rfl rfl rfl rfl ((rmayC ?_)))
    rw [e2]
    refine OWp.evs 1 rfl ?_
    refine OWp.nil ?_
    refine Wp.seq (Wp.region ?_)
    refine OWp.evs 2 rfl ?_
    refine OWp.nil ?_
    refine Wp.cond rfl (fun cc1 => ?_) (fun cc1 => absurd (ndF cc1) (by decide))
    have cc1 := ndT cc1
    refine Wp.seq (Wp.region ?_)
    refine OWp.evs 3 rfl ?_
    refine OWp.nil ?_
    refine Wp.ret ⟨trivial, _, ⟨_, _, rfl, rfl, _, _, rfl, rfl, rfl⟩, ?_⟩
    exact H
  by_cases c2 : 8192 < n
  · have e : wrapR key text n = ([], 2) := by unfold wrapR; rw [if_neg c1, if_pos (.inl c2)]
    have e2 : mayR n = 2 := by unfold mayR; rw [if_neg c1, if_pos c2]
    rw [e] at H
    refine CallWp.enter (args := [_, _, _]) Tryz.func54 rfl Tryz.ntmps54 rfl ?_
    refine Wp.seq (Wp.region ?_)
    refine OWp.evs 2 rfl ?_
    refine OWp.nil ?_
    refine Wp.seq ?_
    refine Wp.seq (Wp.region ?_)
    refine OWp.evs 1 rfl ?_
    refine OWp.step rfl (Step.call rfl rfl rfl rfl rfl rfl ((rmayC ?_)))
    rw [e2]
    refine OWp.evs 1 rfl ?_
    refine OWp.nil ?_
    refine Wp.seq (Wp.region ?_)
    refine OWp.evs 2 rfl ?_
    refine OWp.nil ?_
    refine Wp.cond rfl (fun cc1 => ?_) (fun cc1 => absurd (ndF cc1) (by decide))
    have cc1 := ndT cc1
    refine Wp.seq (Wp.region ?_)
    refine OWp.evs 3 rfl ?_
    refine OWp.nil ?_
    refine Wp.ret ⟨trivial, _, ⟨_, _, rfl, rfl, _, _, rfl, rfl, rfl⟩, ?_⟩
    exact H
  have e2 : mayR n = 0 := by unfold mayR; rw [if_neg c1, if_neg c2]
  have e34 : IntKind.i64.wrap (IntKind.i64.wrap (n - 32) - 2) = n - 34 := by rw [i64_id (x := n - 32) (by omega) (by omega), i64_id (by omega) (by omega)]; omega
  by_cases c3 : n - 34 < (text.length : Int)
  · have e : wrapR key text n = ([], 2) := by unfold wrapR; rw [if_neg c1, if_pos (.inr c3)]
    rw [e] at H
    refine CallWp.enter (args := [_, _, _]) Tryz.func54 rfl Tryz.ntmps54 rfl ?_
    refine Wp.seq (Wp.region ?_)
    refine OWp.evs 2 rfl ?_
    refine OWp.nil ?_
    refine Wp.seq ?_
    refine Wp.seq (Wp.region ?_)
    refine OWp.evs 1 rfl ?_
    refine OWp.step rfl (Step.call rfl rfl rfl rfl rfl rfl ((rmayC ?_)))
    rw [e2]
    refine OWp.evs 1 rfl ?_
    refine OWp.nil ?_
    refine Wp.seq (Wp.region ?_)
    refine OWp.evs 2 rfl ?_
    refine OWp.nil ?_
    refine Wp.cond rfl (fun cc1 => absurd (ndT cc1) (by decide)) (fun cc1 => ?_)
    have cc1 := ndF cc1
    refine Wp.skip ?_
    refine Wp.seq ?_
    refine Wp.seq (Wp.region ?_)
    refine OWp.evs 6 rfl ?_
    refine OWp.nil ?_
    refine Wp.cond rfl (fun cc2 => ?_) (fun cc2 => absurd (of_decide_eq_false cc2) (by rw [e34]; omega))
    have cc2 := of_decide_eq_true cc2
    refine Wp.seq (Wp.region ?_)
    refine OWp.evs 2 rfl ?_
    refine OWp.nil ?_
    refine Wp.ret ⟨trivial, _, ⟨_, _, rfl, rfl, _, _, rfl, rfl, rfl⟩, ?_⟩
    exact H
  obtain ⟨m, rfl⟩ : ∃ m : Nat, n = (m : Int) := ⟨n.toNat, by omega⟩
  rw [wrapR_ok (by omega) (by omega) (by omega)] at H
  have hpl : (wplain text m).length = m := wplain_len (by omega)
  refine CallWp.enter (args := [_, _, _]) Tryz.func54 rfl Tryz.ntmps54 rfl ?_
  refine Wp.seq (Wp.region ?_)
  refine OWp.evs 2 rfl ?_
  refine OWp.nil ?_
  refine Wp.seq ?_
  refine Wp.seq (Wp.region ?_)
  refine OWp.evs 1 rfl ?_
  refine OWp.step rfl (Step.call rfl rfl rfl rfl rfl rfl ((rmayC ?_)))
  rw [e2]
  refine OWp.evs 1 rfl ?_
  refine OWp.nil ?_
  refine Wp.seq (Wp.region ?_)
  refine OWp.evs 2 rfl ?_
  refine OWp.nil ?_
  refine Wp.cond rfl (fun cc1 => absurd (ndT cc1) (by decide)) (fun cc1 => ?_)
  have cc1 := ndF cc1
  refine Wp.skip ?_
  refine Wp.seq ?_
  refine Wp.seq (Wp.region ?_)
  refine OWp.evs 6 rfl ?_
  refine OWp.nil ?_
  refine Wp.cond rfl (fun cc2 => absurd (of_decide_eq_true cc2) (by rw [e34]; omega)) (fun cc2 => ?_)
  have cc2 := of_decide_eq_false cc2
  refine Wp.skip ?_
  refine Wp.seq (Wp.region ?_)
  refine OWp.evs 3 rfl ?_
  refine OWp.step rfl (Step.call rfl rfl rfl rfl rfl rfl ((rplainC (n := m) (by omega) (by omega) (by omega) ?_)))
  refine OWp.step rfl (Step.call rfl rfl rfl rfl rfl rfl ((rshutC hk ?_)))
  rw [blockR_ok (by omega) (by omega)]
  refine OWp.evs 4 rfl ?_
  refine OWp.nil ?_
  refine Wp.ret ⟨trivial, _, ⟨_, _, rfl, rfl, _, _, rfl, rfl, rfl⟩, ?_⟩
  exact H
end
end Go.Proofs.D

namespace Go.Proofs.D
open Go.Lg Go.Sha Go.Hd Go.Cv
open Go.Proofs.C (Hop hopP hopB parse pathE encB)
set_option maxRecDepth 100000
/-- The payload: the text for the last hop, shut for all hops from one on. -/
def bodyR (text : List UInt8) : List HK → List UInt8
  | [] => wplain text 256
  | k :: ks => wshut k.body (bodyR text ks)
/-- A packet, or why there is none. -/
def packR (seed : List UInt8) (ps : List (List UInt8)) (text : List UInt8) (path : List Hop) : List UInt8 × Int :=
  if (makeR seed ps path).2.2 ≠ 0 then ([], (makeR seed ps path).2.2)
  else if 222 < text.length then ([], 2)
  else ((makeR seed ps path).1 ++ bodyR text (makeR seed ps path).2.1, 0)
theorem bodyR_len {text : List UInt8} (h : text.length ≤ 222) : ∀ ks : List HK, (bodyR text ks).length = 256
  | [] => wplain_len (by omega)
  | k :: ks => by
    have ih := bodyR_len h ks
    rw [bodyR, wshut_len _ (by omega), ih]
theorem wrapR_256 {key text : List UInt8} (h : text.length ≤ 222) : wrapR key text 256 = (wshut key (wplain text 256), 0) := by
  unfold wrapR
  rw [if_neg (by decide), if_neg (by omega)]
  rfl
theorem blockR_ok' {f : List UInt8 → List UInt8} {b : List UInt8} (h : b.length = 256) : blockR f b = (f b, 0) := by
  unfold blockR
  rw [if_neg (by omega), if_neg (by omega)]
theorem body_drop {text : List UInt8} {ks : List HK} {i : Nat} (h : i < ks.length) : bodyR text (ks.drop i) = wshut ks[i].body (bodyR text (ks.drop (i + 1))) := by
  rw [List.drop_eq_getElem_cons h, bodyR]
theorem keys_len {seed : List UInt8} {ps : List (List UInt8)} {path : List Hop} (h : (makeR seed ps path).2.2 = 0) : (makeR seed ps path).2.1.length = path.length ∧ pathE path = 0 ∧ (makeR seed ps path).1.length = 248 ∧ ∀ k ∈ (makeR seed ps path).2.1, k.body.length = 32 := by
  unfold makeR at h ⊢
  split at h
  · rename_i h1; exact absurd h h1
  · rename_i h1
    split at h
    · cases h
    · rename_i h2
      split at h
      · cases h
      · rename_i h3
        split at h
        · rename_i h4; exact absurd (Int.ofNat.inj h) h4
        · rename_i h4
          rw [if_neg h1, if_neg h2, if_neg h3, if_neg h4]
          simp only
          obtain ⟨hl, h32⟩ := hopsGo_len _ _ (show (hopsGo [seed] ps).2 = 0 by simpa using h4)
          have h2' : ps.length = path.length := by simpa using h2
          have h1' : pathE path = 0 := by simpa using h1
          obtain ⟨hgood, hpos, hmost⟩ := pathE_ok h1'
          have hs : seed.length = 32 := by
            have := Classical.not_not.1 h3
            exact this seed (List.mem_cons_self ..)
          refine ⟨by rw [List.length_map, hl, h2'], h1', ?_, fun k hk => ?_⟩
          · have hf : (fillGo [] ((hopsGo [seed] ps).1.map keysOf).dropLast).length ≤ 200 := by
              rw [fillGo_len _ _ (by rw [List.length_dropLast, List.length_map, hl]; simp; omega), List.length_dropLast, List.length_map, hl]
              simp
              omega
            have hz : ∀ x ∈ (path.map encB).zip ((hopsGo [seed] ps).1.map keysOf), x.1.length = 24 := by
              intro x hx
              have := (List.of_mem_zip (show (x.1, x.2) ∈ _ from hx)).1
              obtain ⟨y, hy, he⟩ := List.mem_map.1 this
              rw [← he]
              exact encB_good (hgood y hy)
            obtain ⟨e1, e2⟩ := listR_len (pad := derive seed [112, 97, 100] 200) (derive_len _ _ _) hf _ hz
            have e3 : (publicR seed).1.length = 32 := by rw [publicR_eq hs]; exact len32 _
            unfold headR
            rw [List.length_append, List.length_append, e1, e2, e3]
          · obtain ⟨s, _, rfl⟩ := List.mem_map.1 hk
            exact (keysOf_lens s).2.2.1
attribute [local irreducible] derive hmac stream chainR makeR wshut wopen wplain
section
variable {B : Nat} {S R : Ents} {Q : Value → Ents → Prop}
theorem roomC (H : Q (.int .i64 222) S) : CallWp Tryz.prog B 17 #[] Q S := by
  refine CallWp.enter (args := []) Tryz.func17 rfl Tryz.ntmps17 rfl ?_
  refine Wp.seq (Wp.region ?_)
  refine OWp.evs 1 rfl ?_
  refine OWp.nil ?_
  refine Wp.seq (Wp.region ?_)
  refine OWp.evs 1 rfl ?_
  refine OWp.nil ?_
  refine Wp.ret ⟨trivial, _, ⟨_, _, rfl, rfl, rfl⟩, ?_⟩
  exact H
set_option maxHeartbeats 4000000 in
theorem rpackC {seed text : List UInt8} {ps : List (List UInt8)} {path : List Hop} {v w : Value} (_ht : text.length + 5000 ≤ big) (hr : Reads S 1 v ps.length (strs ps)) (hr2 : Reads S 5 w path.length (path.flatMap Hop.cells)) (hl2 : path.length ≤ 2932031007320) (H : Q (.tuple #[.string (str (packR seed ps text path).1), .int .i64 (packR seed ps text path).2]) S) : CallWp Tryz.prog B 16 #[.string (str seed), v, .string (str text), w] Q S := by
  obtain ⟨va, vc, rfl⟩ := hr.form
  obtain ⟨pa, pc, rfl⟩ := hr2.form
  refine CallWp.dropRet ?_
  refine CallWp.enter (args := [_, _, _, _]) Tryz.func16 rfl Tryz.ntmps16 rfl ?_
  refine Wp.seq (Wp.region ?_)
  by_cases h0 : (makeR seed ps path).2.2 ≠ 0
  · skip
    refine OWp.evs 2 rfl ?_
    refine OWp.nil ?_
    refine Wp.seq (Wp.region ?_)
    refine OWp.evs 3 rfl ?_
    refine OWp.step rfl (Step.call rfl rfl rfl rfl rfl rfl ((rmakeC (ps := ps) (path := path) hr hr2 hl2 (fun _ => ?_) (fun h => absurd h h0))))
    rw [show packR seed ps text path = ([], (makeR seed ps path).2.2) by unfold packR; rw [if_pos h0]] at H
    refine OWp.evs 7 rfl ?_
    refine OWp.nil ?_
    refine Wp.seq ?_
    refine Wp.seq (Wp.region ?_)
    refine OWp.evs 2 rfl ?_
    refine OWp.nil ?_
    refine Wp.cond rfl (fun cc1 => ?_) (fun cc1 => absurd (ndF cc1) (by omega))
    have cc1 := ndT cc1
    refine Wp.seq (Wp.region ?_)
    refine OWp.evs 3 rfl ?_
    refine OWp.nil ?_
    refine Wp.ret ⟨trivial, _, ⟨_, _, rfl, rfl, _, _, rfl, rfl, rfl⟩, ?_⟩
    exact ⟨S, .refl _, H⟩
  have h0' : (makeR seed ps path).2.2 = 0 := by omega
  refine OWp.evs 2 rfl ?_
  refine OWp.nil ?_
  refine Wp.seq (Wp.region ?_)
  refine OWp.evs 3 rfl ?_
  refine OWp.step rfl (Step.call rfl rfl rfl rfl rfl rfl ((rmakeC (ps := ps) (path := path) hr hr2 hl2 (fun h => absurd h0' h) ?_)))
  intro _ z es how
  obtain ⟨hkl, hp0, hh248, hb32⟩ := keys_len h0'
  obtain ⟨hgood, hpos, hmost⟩ := pathE_ok hp0
  obtain ⟨hd, hhd⟩ : ∃ x, x = (makeR seed ps path).1 := ⟨_, rfl⟩
  obtain ⟨ks, hks⟩ : ∃ x, x = (makeR seed ps path).2.1 := ⟨_, rfl⟩
  have hP : packR seed ps text path = if 222 < text.length then ([], 2) else (hd ++ bodyR text ks, 0) := by unfold packR; rw [if_neg h0, hhd, hks]
  rw [hP] at H
  rw [← hks] at how hkl hb32
  rw [← hhd] at hh248
  rw [← hhd]
  refine OWp.evs 7 rfl ?_
  refine OWp.nil ?_
  refine Wp.seq ?_
  refine Wp.seq (Wp.region ?_)
  refine OWp.evs 2 rfl ?_
  refine OWp.nil ?_
  refine Wp.cond rfl (fun c => nomatch c) (fun _ => ?_)
  refine Wp.skip ?_
  refine Wp.seq ?_
  refine Wp.seq (Wp.region ?_)
  refine OWp.evs 3 rfl ?_
  refine OWp.nil ?_
  refine Wp.cond rfl (fun h1 => ?_) (fun h1 => ?_)
  · have h1 := of_decide_eq_true h1
    rw [if_pos (by omega)] at H
    refine Wp.seq (Wp.region ?_)
    refine OWp.evs 2 rfl ?_
    refine OWp.nil ?_
    refine Wp.ret ⟨trivial, _, ⟨_, _, rfl, rfl, _, _, rfl, rfl, rfl⟩, ?_⟩
    exact ⟨S, List.sublist_append_right _ _, H⟩
  have h1 := of_decide_eq_false h1
  have ht2 : text.length ≤ 222 := by omega
  rw [if_neg (by omega)] at H
  have how1 : Reads es 5 z ks.length (keysV ks) := by rw [hkl]; exact how.reads
  obtain ⟨hb, ho, hcap, hll, htt, hfz, hzv, hhm, hat⟩ := keys_elem how1 (by omega)
  subst hzv
  obtain ⟨n, hn⟩ : ∃ n, ks.length = n + 1 := ⟨ks.length - 1, by omega⟩
  have w1 : IntKind.i64.wrap ((ks.length : Int) - 1) = (n : Int) := by rw [hn, i64_id] <;> omega
  refine Wp.skip ?_
  refine Wp.seq (Wp.region ?_)
  refine OWp.evs 4 rfl ?_
  refine OWp.nil ?_
  refine Wp.seq (Wp.region ?_)
  refine OWp.evs 2 rfl ?_
  refine OWp.g rfl rfl (Gives.indexAddrSlice (n) rfl rfl rfl rfl rfl w1 (by omega)) ?_
  refine OWp.evs 1 rfl ?_
  refine OWp.load (List.mem_append_left _ hhm) rfl rfl rfl rfl ((partAt_in (m := 2) (hat n (by omega)) rfl (by decide) (by decide)).trans rfl) ?_
  refine OWp.evs 1 rfl ?_
  refine OWp.step rfl (Step.call rfl rfl rfl rfl rfl rfl ((rwrapC (by rw [hb32 _ (List.getElem_mem _)]; decide) ?_)))
  rw [wrapR_256 ht2]
  have hlast : wshut (ks[n]'(by omega)).body (wplain text 256) = bodyR text (ks.drop n) := by rw [body_drop (by omega), List.drop_of_length_le (by omega)]; rfl
  rw [hlast]
  refine OWp.evs 5 rfl ?_
  refine OWp.nil ?_
  refine Wp.seq ?_
  refine Wp.seq (Wp.region ?_)
  refine OWp.evs 3 rfl ?_
  refine OWp.nil ?_
  refine Wp.block ?_
  refine Wp.loopS (α := Nat) (fun j => n + 1 - j) (fun j => [(10, .string (str hd)), (11, .slice (some ⟨hb, ho, none⟩) ks.length hcap), (14, .string (str (bodyR text (ks.drop (n - j))))), (16, .int .i64 ((n : Int) - 1 - (j : Int)))]) (fun _ => es ++ S) (fun j => j ≤ n) 0 ?_ (.refl _) (Nat.zero_le _) ?_
  · exact .cons rfl (.cons rfl (.cons rfl (.cons' rfl (int_eq (by rw [w1, i64_id] <;> omega)) (.nil _))))
  rintro j hj
  refine Wp.seq ?_
  refine Wp.seq (Wp.region ?_)
  refine OWp.evs 2 rfl ?_
  refine OWp.nil ?_
  refine Wp.cond rfl (fun h7 => ?_) (fun h7 => ?_)
  · have h7 := of_decide_eq_true h7
    have hj1 : j < n := by omega
    obtain ⟨i, hi⟩ : ∃ i, i = n - (j + 1) := ⟨_, rfl⟩
    have hi2 : n - j = i + 1 := by omega
    have hi3 : (n : Int) - 1 - (j : Int) = (i : Int) := by omega
    rw [hi2, hi3]
    refine Wp.skip ?_
    refine Wp.seq ?_
    refine Wp.block ?_
    refine Wp.region ?_
    refine OWp.evs 2 rfl ?_
    refine OWp.g rfl rfl (Gives.indexAddrSlice (i) rfl rfl rfl rfl rfl rfl (by omega)) ?_
    refine OWp.evs 1 rfl ?_
    refine OWp.load (List.mem_append_left _ hhm) rfl rfl rfl rfl ((partAt_in (m := 2) (hat i (by omega)) rfl (by decide) (by decide)).trans rfl) ?_
    refine OWp.evs 1 rfl ?_
    refine OWp.step rfl (Step.call rfl rfl rfl rfl rfl rfl ((rshutC (by rw [hb32 _ (List.getElem_mem _)]; decide) ?_)))
    rw [blockR_ok' (bodyR_len ht2 _), ← body_drop (by omega)]
    refine OWp.evs 4 rfl ?_
    refine OWp.nil ?_
    refine Wp.region ?_
    refine OWp.evs 3 rfl ?_
    refine OWp.nil ?_
    exact ⟨j + 1, by omega, by omega, .cons rfl (.cons rfl (.cons' rfl (by rw [← hi]) (.cons' rfl (int_eq (by rw [i64_id] <;> omega)) (.nil _)))), .refl _⟩
  have h7 := of_decide_eq_false h7
  obtain rfl : j = n := by omega
  rw [Nat.sub_self, List.drop_zero]
  refine Wp.exit ?_
  refine Wp.seq (Wp.region ?_)
  refine OWp.evs 2 rfl ?_
  refine OWp.g rfl rfl (Gives.addStr rfl rfl rfl (by rw [hh248, bodyR_len ht2]; decide)) ?_
  refine OWp.evs 2 rfl ?_
  refine OWp.nil ?_
  refine Wp.ret ⟨trivial, _, ⟨_, _, rfl, rfl, _, _, rfl, rfl, rfl⟩, ?_⟩
  exact ⟨S, List.sublist_append_right _ _, H⟩
set_option maxHeartbeats 4000000 in
theorem packC {seed text : List UInt8} {ps : List (List UInt8)} {path : List Hop} {v w : Value} (hksI : KsIn S) (_ht : text.length + 5000 ≤ big) (hr : Reads S 1 v ps.length (strs ps)) (hl : ps.length ≤ 8796093022080) (hr2 : Reads S 5 w path.length (path.flatMap Hop.cells)) (hl2 : path.length ≤ 2932031007320) (H : Q (.tuple #[.string (str (packR seed ps text path).1), .int .i64 (packR seed ps text path).2]) S) : CallWp Tryz.prog B 15 #[.string (str seed), v, .string (str text), w] Q S := by
  obtain ⟨va, vc, rfl⟩ := hr.form
  obtain ⟨pa, pc, rfl⟩ := hr2.form
  refine CallWp.dropRet ?_
  refine CallWp.enter (args := [_, _, _, _]) Tryz.func15 rfl Tryz.ntmps15 rfl ?_
  refine Wp.seq (Wp.region ?_)
  by_cases h0 : (makeR seed ps path).2.2 ≠ 0
  · skip
    refine OWp.evs 2 rfl ?_
    refine OWp.nil ?_
    refine Wp.seq (Wp.region ?_)
    refine OWp.evs 3 rfl ?_
    refine OWp.step rfl (Step.call rfl rfl rfl rfl rfl rfl ((makeC (ps := ps) (path := path) hksI hr (by omega) hr2 hl2 (fun _ => ?_) (fun h => absurd h h0))))
    rw [show packR seed ps text path = ([], (makeR seed ps path).2.2) by unfold packR; rw [if_pos h0]] at H
    refine OWp.evs 7 rfl ?_
    refine OWp.nil ?_
    refine Wp.seq ?_
    refine Wp.seq (Wp.region ?_)
    refine OWp.evs 2 rfl ?_
    refine OWp.nil ?_
    refine Wp.cond rfl (fun cc1 => ?_) (fun cc1 => absurd (ndF cc1) (by omega))
    have cc1 := ndT cc1
    refine Wp.seq (Wp.region ?_)
    refine OWp.evs 3 rfl ?_
    refine OWp.nil ?_
    refine Wp.ret ⟨trivial, _, ⟨_, _, rfl, rfl, _, _, rfl, rfl, rfl⟩, ?_⟩
    exact ⟨S, .refl _, H⟩
  have h0' : (makeR seed ps path).2.2 = 0 := by omega
  refine OWp.evs 2 rfl ?_
  refine OWp.nil ?_
  refine Wp.seq (Wp.region ?_)
  refine OWp.evs 3 rfl ?_
  refine OWp.step rfl (Step.call rfl rfl rfl rfl rfl rfl ((makeC (ps := ps) (path := path) hksI hr (by omega) hr2 hl2 (fun h => absurd h0' h) ?_)))
  intro _ z es how
  obtain ⟨hkl, hp0, hh248, hb32⟩ := keys_len h0'
  obtain ⟨hgood, hpos, hmost⟩ := pathE_ok hp0
  obtain ⟨hd, hhd⟩ : ∃ x, x = (makeR seed ps path).1 := ⟨_, rfl⟩
  obtain ⟨ks, hks⟩ : ∃ x, x = (makeR seed ps path).2.1 := ⟨_, rfl⟩
  have hP : packR seed ps text path = if 222 < text.length then ([], 2) else (hd ++ bodyR text ks, 0) := by unfold packR; rw [if_neg h0, hhd, hks]
  rw [hP] at H
  rw [← hks] at how hkl hb32
  rw [← hhd] at hh248
  rw [← hhd]
  refine OWp.evs 7 rfl ?_
  refine OWp.nil ?_
  refine Wp.seq ?_
  refine Wp.seq (Wp.region ?_)
  refine OWp.evs 2 rfl ?_
  refine OWp.nil ?_
  refine Wp.cond rfl (fun c => nomatch c) (fun _ => ?_)
  refine Wp.skip ?_
  refine Wp.seq ?_
  refine Wp.seq (Wp.region ?_)
  refine OWp.evs 2 rfl ?_
  refine OWp.step rfl (Step.call rfl rfl rfl rfl rfl rfl ((roomC ?_)))
  refine OWp.evs 1 rfl ?_
  refine OWp.nil ?_
  refine Wp.cond rfl (fun h1 => ?_) (fun h1 => ?_)
  · have h1 := of_decide_eq_true h1
    rw [if_pos (by omega)] at H
    refine Wp.seq (Wp.region ?_)
    refine OWp.evs 2 rfl ?_
    refine OWp.nil ?_
    refine Wp.ret ⟨trivial, _, ⟨_, _, rfl, rfl, _, _, rfl, rfl, rfl⟩, ?_⟩
    exact ⟨S, List.sublist_append_right _ _, H⟩
  have h1 := of_decide_eq_false h1
  have ht2 : text.length ≤ 222 := by omega
  rw [if_neg (by omega)] at H
  have how1 : Reads es 5 z ks.length (keysV ks) := by rw [hkl]; exact how.reads
  obtain ⟨hb, ho, hcap, hll, htt, hfz, hzv, hhm, hat⟩ := keys_elem how1 (by omega)
  subst hzv
  obtain ⟨n, hn⟩ : ∃ n, ks.length = n + 1 := ⟨ks.length - 1, by omega⟩
  have w1 : IntKind.i64.wrap ((ks.length : Int) - 1) = (n : Int) := by rw [hn, i64_id] <;> omega
  refine Wp.skip ?_
  refine Wp.seq (Wp.region ?_)
  refine OWp.evs 4 rfl ?_
  refine OWp.nil ?_
  refine Wp.seq (Wp.region ?_)
  refine OWp.evs 2 rfl ?_
  refine OWp.g rfl rfl (Gives.indexAddrSlice (n) rfl rfl rfl rfl rfl w1 (by omega)) ?_
  refine OWp.evs 1 rfl ?_
  refine OWp.load (List.mem_append_left _ hhm) rfl rfl rfl rfl ((partAt_in (m := 2) (hat n (by omega)) rfl (by decide) (by decide)).trans rfl) ?_
  refine OWp.evs 1 rfl ?_
  refine OWp.step rfl (Step.call rfl rfl rfl rfl rfl rfl ((wwrapC hksI.append (by rw [hb32 _ (List.getElem_mem _)]; decide) ?_)))
  rw [wrapR_256 ht2]
  have hlast : wshut (ks[n]'(by omega)).body (wplain text 256) = bodyR text (ks.drop n) := by rw [body_drop (by omega), List.drop_of_length_le (by omega)]; rfl
  rw [hlast]
  refine OWp.evs 5 rfl ?_
  refine OWp.nil ?_
  refine Wp.seq ?_
  refine Wp.seq (Wp.region ?_)
  refine OWp.evs 2 rfl ?_
  refine OWp.nil ?_
  refine Wp.block ?_
  refine Wp.loopS (α := Nat) (fun j => n - j) (fun j => [(10, .string (str hd)), (11, .slice (some ⟨hb, ho, none⟩) ks.length hcap), (13, .int .i64 (n : Int)), (14, .string (str (bodyR text (ks.drop (n - j))))), (45, .int .i64 (n : Int)), (46, .int .i64 (j : Int))]) (fun _ => es ++ S) (fun j => j ≤ n) 0 ?_ (.refl _) (Nat.zero_le _) ?_
  · exact .cons rfl (.cons rfl (.cons' rfl (int_eq w1) (.cons rfl (.cons' rfl (int_eq w1) (.cons rfl (.nil _))))))
  rintro j hj
  refine Wp.seq (Wp.region ?_)
  refine OWp.evs 1 rfl ?_
  refine OWp.nil ?_
  refine Wp.seq ?_
  refine Wp.cond rfl (fun h7 => ?_) (fun h7 => ?_)
  · have h7 := of_decide_eq_true h7
    have hj1 : j < n := by omega
    obtain ⟨i, hi⟩ : ∃ i, i = n - (j + 1) := ⟨_, rfl⟩
    have hi2 : n - j = i + 1 := by omega
    have w2 : IntKind.i64.wrap (IntKind.i64.wrap ((n : Int) - 1) - (j : Int)) = (i : Int) := by rw [i64_id (x := (n : Int) - 1) (by omega) (by omega), i64_id] <;> omega
    rw [hi2]
    refine Wp.skip ?_
    refine Wp.seq ?_
    refine Wp.block ?_
    refine Wp.seq (Wp.region ?_)
    refine OWp.evs 2 rfl ?_
    refine OWp.nil ?_
    refine Wp.region ?_
    refine OWp.evs 5 rfl ?_
    refine OWp.g rfl rfl (Gives.indexAddrSlice (i) rfl rfl rfl rfl rfl w2 (by omega)) ?_
    refine OWp.evs 1 rfl ?_
    refine OWp.load (List.mem_append_left _ hhm) rfl rfl rfl rfl ((partAt_in (m := 2) (hat i (by omega)) rfl (by decide) (by decide)).trans rfl) ?_
    refine OWp.evs 1 rfl ?_
    refine OWp.step rfl (Step.call rfl rfl rfl rfl rfl rfl ((wshutC hksI.append (by rw [hb32 _ (List.getElem_mem _)]; decide) ?_)))
    rw [blockR_ok' (bodyR_len ht2 _), ← body_drop (by omega)]
    refine OWp.evs 4 rfl ?_
    refine OWp.nil ?_
    refine Wp.region ?_
    refine OWp.evs 2 rfl ?_
    refine OWp.nil ?_
    exact ⟨j + 1, by omega, by omega, .cons rfl (.cons rfl (.cons rfl (.cons' rfl (by rw [← hi]) (.cons rfl (.cons' rfl (int_eq (i64_inc (by omega))) (.nil _)))))), .refl _⟩
  have h7 := of_decide_eq_false h7
  obtain rfl : j = n := by omega
  rw [Nat.sub_self, List.drop_zero]
  refine Wp.exit ?_
  refine Wp.seq (Wp.region ?_)
  refine OWp.evs 2 rfl ?_
  refine OWp.g rfl rfl (Gives.addStr rfl rfl rfl (by rw [hh248, bodyR_len ht2]; decide)) ?_
  refine OWp.evs 2 rfl ?_
  refine OWp.nil ?_
  refine Wp.ret ⟨trivial, _, ⟨_, _, rfl, rfl, _, _, rfl, rfl, rfl⟩, ?_⟩
  exact ⟨S, List.sublist_append_right _ _, H⟩
end
end Go.Proofs.D
