/- What functions of the given program do, one after the other, told by that layer. -/
import Derived.Test.YtkjaehdfmmcgmaaGreatDoorMM9xc501
import Derived.Test.YtkjaehdfmmcgmaaGreatDoorMM3xc0b7
import Derived.Test.YtkjaehdfmmcgmaaGreatDoorMM8xb43d
import Derived.Test.YtkjaehdfmmcgmaaGreatDoorBWidW
namespace Go.Proofs.D
open Go.Lg Go.Sha
set_option maxRecDepth 100000

theorem brow_reads {L m cap : Nat} {x : List UInt8} {g : List Value} {S : Ents} (hm : x.length = m) (h : brow L x g ∈ S) : Reads S 1 (.slice (some ⟨L, 0, none⟩) m cap) m (byteCells x) := by
 subst hm
 have := Reads.row (sz := 1) (k := x.length) (cap := cap) h (by rw [List.length_append, byteCells_length]; omega)
 rw [Nat.mul_one, List.take_append_of_le_length (by rw [byteCells_length]; exact Nat.le_refl _), List.take_of_length_le (by rw [byteCells_length]; exact Nat.le_refl _)] at this
 exact this

abbrev hlE (L L1 L2 : Nat) (dk : List UInt8) (m c1 c2 : Nat) : Nat × Obj := (L, cel [.string (str dk), .slice (some ⟨L1, 0, none⟩) 32 c1, .slice (some ⟨L2, 0, none⟩) m c2] 236)

theorem rot3 {a b c : Nat × Obj} {S : Ents} : (a :: b :: c :: S).Perm (b :: c :: a :: S) := (List.Perm.swap _ _ _).trans (List.Perm.cons _ (List.Perm.swap _ _ _))

section
variable {B : Nat} {S R : Ents} {Q : Value → Ents → Prop}

theorem wmixNC {L m : Nat} {x s : List UInt8} {g : List Value} {cap : Nat} (hm : x.length = m) (hB : B ≤ L) (hx : x.length ≤ big) (hl : x.length ≤ s.length) (H : Q (.tuple #[]) (brow L (xors x s) g :: R)) :
  CallWp Tryz.prog B 141 #[.slice (some ⟨L, 0, none⟩) m cap, .string (str s)] Q (brow L x g :: R) := by
 subst hm; exact wmixC hB hx hl H

theorem wbeginC {key block : List UInt8} (hk : KsIn S) (h1 : key.length + 1000 ≤ big) (h2 : 64 ≤ block.length) (h3 : block.length ≤ 8192)
  (H : ∀ L L1 L2 g1 g2 c1 c2, B ≤ L → B ≤ L1 → B ≤ L2 → Q (.tuple #[pt L, .int .i64 0]) (hlE L L1 L2 (derive key wlabel 128) (block.length - 32) c1 c2 :: brow L2 (block.drop 32) g2 :: brow L1 (block.take 32) g1 :: S)) :
  CallWp Tryz.prog B 88 #[.string (str key), .string (str block)] Q S := by
 have hb : big = 281474976710656 := rfl
 refine Yx (args := [_, _]) Tryz.func88 Tryz.ntmps88 ?_
 refine Yn 2 rfl ?_
 refine Wp.seq ?_
 refine Wp.block ?_
 refine Yn 4 rfl ?_
 refine Ct rfl (by omega) fun cc1 => ?_
 refine Yn 4 rfl ?_
 refine Ct rfl (by omega) fun cc2 => ?_
 refine Wp.skip ?_
 refine Yg 1 rfl ?_
 refine Yc rfl rfl (deriveC (label := wlabel) (n := 128) hk (by decide) h1 (by rw [hb]; decide) ?_)
 refine Yz 5 rfl ?_
 refine Wp.seq (Wp.regionDraw [0, 1, 2, 3, 5, 6, 10, 13, 13, 13, 13, 13, 13] [4, 7, 9] rfl (by decide +kernel) ?_)
 refine DWp.evs 1 rfl ?_
 refine DWp.g rfl rfl rfl rfl (Gives.build rfl rfl) ?_
 refine DWp.evs 1 rfl ?_
 refine DWp.g rfl rfl rfl rfl (Gives.sliceStr (l := 0) (h' := 32) rfl rfl rfl rfl ⟨_, _, rfl, rfl⟩ (by omega) (by omega)) ?_
 refine DWp.evs 1 rfl ?_
 refine DWp.g rfl rfl rfl rfl (Gives.sliceStr (l := 32) (h' := block.length) rfl rfl rfl ⟨_, _, rfl, rfl⟩ rfl (by omega) (by omega)) ?_
 refine DWp.evs 1 rfl ?_
 refine DWp.fork (i := 4) (j := 7) (r1 := [7, 8, 9, 11, 12]) (r2 := [4, 8, 9, 11, 12]) (by decide +kernel) rfl rfl rfl rfl (by decide +kernel) (by decide +kernel) rfl rfl ?_ ?_
 ·skip
  refine (Step.strToBytes rfl rfl rfl rfl rfl rfl ?_); intro L1 g1 p1 hBL1 hLL1 hcL1; refine ⟨fun _ hy => .tail _ hy, ?_⟩
  refine DWp.stepGrow rfl rfl rfl (Step.strToBytes rfl rfl rfl rfl rfl rfl ?_); intro L2 g2 p2 hBL2 hLL2 hcL2; refine ⟨fun _ hy => .tail _ hy, ?_⟩
  refine DWp.g rfl rfl rfl rfl (Gives.build rfl rfl) ?_
  refine DWp.stepGrow rfl rfl rfl (Step.box rfl rfl rfl ?_); intro L hBL hLL; refine ⟨fun _ hy => .tail _ hy, ?_⟩
  refine DWp.evs 2 rfl ?_
  refine DWp.nil ?_
  refine Wp.ret ⟨trivial, _, ⟨_, _, rfl, rfl, _, _, rfl, rfl, rfl⟩, ?_⟩
  have e2 : (block.drop 32).take (block.length - 32) = block.drop 32 := List.take_of_length_le (by rw [List.length_drop]; exact Nat.le_refl _)
  have e1 : (block.drop 0).take (32 - 0) = block.take 32 := rfl
  rw [e2] at hcL2
  obtain rfl : p1 = (block.take 32).length + g1.length := by rw [← hcL1, List.length_append, byteCells_length, e1]
  obtain rfl : p2 = (block.drop 32).length + g2.length := by rw [← hcL2, List.length_append, byteCells_length]
  have := H L L1 L2 g1 g2 ((block.take 32).length + g1.length) ((block.drop 32).length + g2.length) hBL hBL1 hBL2
  have e3 : (block.take 32).length = 32 := by rw [List.length_take]; omega
  simp only [brow, e2, e1, e3, List.length_drop] at this ⊢
  exact this
 refine (Step.strToBytes rfl rfl rfl rfl rfl rfl ?_); intro L2 g2 p2 hBL2 hLL2 hcL2; refine ⟨fun _ hy => .tail _ hy, ?_⟩
 refine DWp.stepGrow rfl rfl rfl (Step.strToBytes rfl rfl rfl rfl rfl rfl ?_); intro L1 g1 p1 hBL1 hLL1 hcL1; refine ⟨fun _ hy => .tail _ hy, ?_⟩
 refine DWp.g rfl rfl rfl rfl (Gives.build rfl rfl) ?_
 refine DWp.stepGrow rfl rfl rfl (Step.box rfl rfl rfl ?_); intro L hBL hLL; refine ⟨fun _ hy => .tail _ hy, ?_⟩
 refine DWp.evs 2 rfl ?_
 refine DWp.nil ?_
 refine Wp.permS (List.Perm.cons _ (List.Perm.swap _ _ _)) ?_
 refine Wp.ret ⟨trivial, _, ⟨_, _, rfl, rfl, _, _, rfl, rfl, rfl⟩, ?_⟩
 have e2 : (block.drop 32).take (block.length - 32) = block.drop 32 := List.take_of_length_le (by rw [List.length_drop]; exact Nat.le_refl _)
 have e1 : (block.drop 0).take (32 - 0) = block.take 32 := rfl
 rw [e2] at hcL2
 obtain rfl : p1 = (block.take 32).length + g1.length := by rw [← hcL1, List.length_append, byteCells_length, e1]
 obtain rfl : p2 = (block.drop 32).length + g2.length := by rw [← hcL2, List.length_append, byteCells_length]
 have := H L L1 L2 g1 g2 ((block.take 32).length + g1.length) ((block.drop 32).length + g2.length) hBL hBL1 hBL2
 have e3 : (block.take 32).length = 32 := by rw [List.length_take]; omega
 simp only [brow, e2, e1, e3, List.length_drop] at this ⊢
 exact this
theorem wbeginShortC {key block : List UInt8} (h2 : block.length < 64) (H : Q (.tuple #[.pointer none, .int .i64 3]) S) :
  CallWp Tryz.prog B 88 #[.string (str key), .string (str block)] Q S := by
 refine Yx (args := [_, _]) Tryz.func88 Tryz.ntmps88 ?_
 refine Yn 2 rfl ?_
 refine Wp.seq ?_
 refine Wp.block ?_
 refine Yn 4 rfl ?_
 refine Cv rfl (by omega) fun cc1 => ?_
 refine Yn 2 rfl ?_
 refine Wp.ret ⟨trivial, _, ⟨_, _, rfl, rfl, _, _, rfl, rfl, rfl⟩, ?_⟩
 exact H
theorem wbeginLongC {key block : List UInt8} (h2 : 8192 < block.length) (H : Q (.tuple #[.pointer none, .int .i64 2]) S) :
  CallWp Tryz.prog B 88 #[.string (str key), .string (str block)] Q S := by
 refine Yx (args := [_, _]) Tryz.func88 Tryz.ntmps88 ?_
 refine Yn 2 rfl ?_
 refine Wp.seq ?_
 refine Wp.block ?_
 refine Yn 4 rfl ?_
 refine Ct rfl (by omega) fun cc1 => ?_
 refine Yn 4 rfl ?_
 refine Cv rfl (by omega) fun cc2 => ?_
 refine Yn 2 rfl ?_
 refine Wp.ret ⟨trivial, _, ⟨_, _, rfl, rfl, _, _, rfl, rfl, rfl⟩, ?_⟩
 exact H
theorem wtextC {L L1 L2 m c1 c2 : Nat} {dk : List UInt8} {x : List UInt8 × List UInt8} {g1 g2 : List Value} (hx : Halved m x) (hm : m ≤ 8160) (H : Q (.string (str (whole x))) (hlE L L1 L2 dk m c1 c2 :: brow L2 x.2 g2 :: brow L1 x.1 g1 :: S)) :
  CallWp Tryz.prog B 91 #[pt L] Q (hlE L L1 L2 dk m c1 c2 :: brow L2 x.2 g2 :: brow L1 x.1 g1 :: S) := by
 have hx1 := hx.1
 have hx2 := hx.2
 refine Yx (args := [_]) Tryz.func91 Tryz.ntmps91 ?_
 refine Yn 1 rfl ?_
 refine Wp.seq (Wp.regionDraw [0, 1, 2, 3, 4, 5, 6, 7, 8, 9, 10, 11] [] rfl (by decide +kernel) ?_)
 refine DWp.evs 3 rfl ?_
 refine Yd m0 ?_
 refine DWp.gives rfl rfl rfl rfl (Gives.bytesToStr (F := [brow L1 x.1 g1]) (l := x.1) (k := 32) rfl rfl rfl rfl rfl (brow_reads hx.1 (.head _))) (mem1 (.tail _ (.tail _ (.head _)))) ?_
 refine DWp.evs 3 rfl ?_
 refine Yd m0 ?_
 refine DWp.gives rfl rfl rfl rfl (Gives.bytesToStr (F := [brow L2 x.2 g2]) (l := x.2) (k := m) rfl rfl rfl rfl rfl (brow_reads hx.2 (.head _))) (mem1 (.tail _ (.head _))) ?_
 refine DWp.g rfl rfl rfl rfl (Gives.addStr rfl rfl rfl (by omega)) ?_
 refine DWp.evs 1 rfl ?_
 refine DWp.nil ?_
 refine Wp.ret ⟨trivial, _, ⟨_, _, rfl, rfl, rfl⟩, ?_⟩
 exact H
theorem wpressC {L L1 L2 m c1 c2 i : Nat} {key : List UInt8} {x : List UInt8 × List UInt8} {g1 g2 : List Value} (hk : KsIn S) (hx : Halved m x) (hm : m ≤ 8160) (hi : i < 4) (hB : B ≤ L1)
  (H : Q (.tuple #[]) (hlE L L1 L2 (derive key wlabel 128) m c1 c2 :: brow L2 (wpress key i x).2 g2 :: brow L1 (wpress key i x).1 g1 :: S)) :
  CallWp Tryz.prog B 90 #[pt L, .int .i64 (i : Int)] Q (hlE L L1 L2 (derive key wlabel 128) m c1 c2 :: brow L2 x.2 g2 :: brow L1 x.1 g1 :: S) := by
 have hb : big = 281474976710656 := rfl
 have hx1 := hx.1
 have hx2 := hx.2
 have hkl := wkey_len key hi
 refine subRet ?_
 refine Yx (args := [_, _]) Tryz.func90 Tryz.ntmps90 ?_
 refine Wp.regionDraw [0, 1, 2, 3, 4, 5, 6, 7, 8, 10, 11, 12, 13, 14, 18, 18, 18, 18] [9, 15, 16, 17] rfl (by decide +kernel) ?_
 refine DWp.evs 3 rfl ?_
 refine Yd m0 ?_
 refine DWp.evs 3 rfl ?_
 refine Yd m0 ?_
 refine DWp.evs 4 rfl ?_
 refine Yd m0 ?_
 refine DWp.gives rfl rfl rfl rfl (Gives.bytesToStr (F := [brow L2 x.2 g2]) (l := x.2) (k := m) rfl rfl rfl rfl rfl (brow_reads hx.2 (.head _))) (mem1 (.tail _ (.head _))) ?_
 refine DWp.fork (i := 9) (j := 15) (r1 := [15, 16, 17]) (r2 := [9, 16, 17]) (by decide +kernel) rfl rfl rfl rfl (by decide +kernel) (by decide +kernel) rfl rfl ?_ ?_
 ·skip
  refine (Step.call rfl rfl rfl rfl rfl rfl ((keyC (expand_len _ _ _) hi ?_)))
  refine ⟨fun _ hy => hy, ?_⟩
  refine DWp.stepGrow rfl rfl rfl (Step.buildSlice rfl rfl rfl ?_); intro Lb hBLb hLLb; refine ⟨fun _ hy => .tail _ hy, ?_⟩
  refine DWp.stepGrow rfl rfl rfl (Step.call rfl rfl rfl rfl rfl rfl ((tagC (key := wkey key i) (l := [x.2]) (Reads.row (k := 1) (sz := 1) (.head _) (Nat.le_of_ble_eq_true rfl)) (by decide) hk.cons.cons.cons.cons (by rw [hkl, hb]; decide) (by rw [hb]; simp; omega) ?_)))
  refine ⟨fun _ hy => hy, ?_⟩
  refine DWp.stepAll rfl rfl rfl rfl (Step.call rfl rfl rfl rfl rfl rfl (CallWp.focus 3 rfl ((wmixNC hx.1 hB (by rw [hb]; omega) (by rw [hmac_len]; omega) ?_))))
  refine DWp.nil ?_
  refine ⟨trivial, [], rfl, ?_⟩
  refine ⟨_, _, (List.Perm.swap _ _ _).trans (.cons _ rot3), List.sublist_cons_self _ _, ?_⟩
  have : [x.2].flatten = x.2 := by simp
  rw [this]; exact H
 refine (Step.buildSlice rfl rfl rfl ?_); intro Lb hBLb hLLb; refine ⟨fun _ hy => .tail _ hy, ?_⟩
 refine DWp.stepGrow rfl rfl rfl (Step.call rfl rfl rfl rfl rfl rfl ((keyC (expand_len _ _ _) hi ?_)))
 refine ⟨fun _ hy => hy, ?_⟩
 refine DWp.stepGrow rfl rfl rfl (Step.call rfl rfl rfl rfl rfl rfl ((tagC (key := wkey key i) (l := [x.2]) (Reads.row (k := 1) (sz := 1) (.head _) (Nat.le_of_ble_eq_true rfl)) (by decide) hk.cons.cons.cons.cons (by rw [hkl, hb]; decide) (by rw [hb]; simp; omega) ?_)))
 refine ⟨fun _ hy => hy, ?_⟩
 refine DWp.stepAll rfl rfl rfl rfl (Step.call rfl rfl rfl rfl rfl rfl (CallWp.focus 3 rfl ((wmixNC hx.1 hB (by rw [hb]; omega) (by rw [hmac_len]; omega) ?_))))
 refine DWp.nil ?_
 refine ⟨trivial, [], rfl, ?_⟩
 refine ⟨_, _, (List.Perm.swap _ _ _).trans (.cons _ rot3), List.sublist_cons_self _ _, ?_⟩
 have : [x.2].flatten = x.2 := by simp
 rw [this]; exact H
theorem wflowC {L L1 L2 m c1 c2 i : Nat} {key : List UInt8} {x : List UInt8 × List UInt8} {g1 g2 : List Value} (hx : Halved m x) (hm : m ≤ 8160) (hi : i < 4) (hB : B ≤ L2)
  (H : Q (.tuple #[]) (hlE L L1 L2 (derive key wlabel 128) m c1 c2 :: brow L2 (wflow key i x).2 g2 :: brow L1 (wflow key i x).1 g1 :: S)) :
  CallWp Tryz.prog B 89 #[pt L, .int .i64 (i : Int)] Q (hlE L L1 L2 (derive key wlabel 128) m c1 c2 :: brow L2 x.2 g2 :: brow L1 x.1 g1 :: S) := by
 have hb : big = 281474976710656 := rfl
 have hx1 := hx.1
 have hx2 := hx.2
 have hkl := wkey_len key hi
 refine subRet ?_
 refine Yx (args := [_, _]) Tryz.func89 Tryz.ntmps89 ?_
 refine Yg 3 rfl ?_
 refine Yl m0 ?_
 refine Ye 1 rfl ?_
 refine Yc rfl rfl (keyC (expand_len _ _ _) hi ?_)
 refine OWp.step rfl (Step.strToBytes rfl rfl rfl rfl rfl rfl ?_); intro Lk gk pk hBLk hLLk hcLk
 have ek : ((derive key wlabel 128).drop (32 * i)).take 32 = wkey key i := rfl
 rw [ek] at hcLk ⊢
 obtain rfl : pk = (wkey key i).length + gk.length := by rw [← hcLk, List.length_append, byteCells_length]
 refine Yz 1 rfl ?_
 refine Yg 4 rfl ?_
 refine Yl m1 ?_
 refine OWp.gives rfl rfl (Gives.bytesToStr (F := [brow L1 x.1 g1]) (l := x.1) (k := 32) rfl rfl rfl rfl rfl (brow_reads hx.1 (.head _))) (mem1 (.tail _ (.tail _ (.tail _ (.head _))))) ?_
 refine Yc rfl rfl (wmixC hBLk (by rw [hb]; omega) (by omega) ?_)
 refine OWp.nil ?_
 refine Wp.seq (Wp.regionDraw [0, 1, 2, 3, 4, 5, 6, 7, 8, 9, 10, 11, 12] [7] rfl (by decide +kernel) ?_)
 refine DWp.evs 1 rfl ?_
 refine DWp.gives rfl rfl rfl rfl (Gives.bytesToStr (F := [brow Lk (xors (wkey key i) x.1) gk]) (l := xors (wkey key i) x.1) (k := (wkey key i).length) rfl rfl rfl rfl rfl (brow_reads (xors_len (by omega)) (.head _))) (mem1 (.head _)) ?_
 refine DWp.evs 3 rfl ?_
 refine Yd m1 ?_
 refine DWp.evs 1 rfl ?_
 refine DWp.stepAll rfl rfl rfl rfl (Step.call rfl rfl rfl rfl rfl rfl ((sbytesnC (nonce := zeros12) (n := m) (by rw [xors_len (by omega)]; exact hkl) rfl (by omega) ?_)))
 refine DWp.evs 5 rfl ?_
 refine DWp.nil ?_
 refine Wp.region ?_
 refine Ye 3 rfl ?_
 refine Yl m1 ?_
 refine Ye 1 rfl ?_
 refine Yc rfl rfl (CallWp.focus 2 rfl ((wmixNC hx.2 hB (by rw [hb]; omega) (by rw [stream_len]; omega) ?_)))
 refine OWp.nil ?_
 refine ⟨trivial, [], rfl, ?_⟩
 refine ⟨_, _, rot3, List.sublist_cons_self _ _, ?_⟩
 rw [← hx2] at H ⊢
 exact H
theorem wshutC {key block : List UInt8} (hk : KsIn S) (h1 : key.length + 1000 ≤ big) (H : Q (.tuple #[.string (str (blockR (wshut key) block).1), .int .i64 ((blockR (wshut key) block).2 : Nat)]) S) :
  CallWp Tryz.prog B 44 #[.string (str key), .string (str block)] Q S := by
 have hb : big = 281474976710656 := rfl
 by_cases c1 : block.length < 64
 ·have e : blockR (wshut key) block = ([], 3) := by unfold blockR; rw [if_pos c1]
  rw [e] at H
  refine Yx (args := [_, _]) Tryz.func44 Tryz.ntmps44 ?_
  refine Yn 2 rfl ?_
  refine Yg 2 rfl ?_
  refine Yc rfl rfl (wbeginShortC c1 ?_)
  refine Yz 5 rfl ?_
  refine Wp.seq ?_
  refine Yn 2 rfl ?_
  refine Cw rfl (by decide) fun cc1 => ?_
  refine Yn 3 rfl ?_
  refine Wp.ret ⟨trivial, _, ⟨_, _, rfl, rfl, _, _, rfl, rfl, rfl⟩, ?_⟩
  exact H
 by_cases c2 : 8192 < block.length
 ·have e : blockR (wshut key) block = ([], 2) := by unfold blockR; rw [if_neg c1, if_pos c2]
  rw [e] at H
  refine Yx (args := [_, _]) Tryz.func44 Tryz.ntmps44 ?_
  refine Yn 2 rfl ?_
  refine Yg 2 rfl ?_
  refine Yc rfl rfl (wbeginLongC c2 ?_)
  refine Yz 5 rfl ?_
  refine Wp.seq ?_
  refine Yn 2 rfl ?_
  refine Cw rfl (by decide) fun cc1 => ?_
  refine Yn 3 rfl ?_
  refine Wp.ret ⟨trivial, _, ⟨_, _, rfl, rfl, _, _, rfl, rfl, rfl⟩, ?_⟩
  exact H
 have e : blockR (wshut key) block = (wshut key block, 0) := by unfold blockR; rw [if_neg c1, if_neg c2]
 rw [e] at H
 have x0 := halves_halved (b := block) (by omega)
 have hm : block.length - 32 ≤ 8160 := by omega
 have x1 := wflow_halved (key := key) (i := 0) x0
 have x2 := wpress_halved (key := key) (i := 1) x1
 have x3 := wflow_halved (key := key) (i := 2) x2
 have x4 := wpress_halved (key := key) (i := 3) x3
 refine subRet ?_
 refine Yx (args := [_, _]) Tryz.func44 Tryz.ntmps44 ?_
 refine Yn 2 rfl ?_
 refine Yg 2 rfl ?_
 refine Yc rfl rfl (wbeginC hk h1 (by omega) (by omega) ?_)
 intro L L1 L2 g1 g2 p1 p2 hBL hBL1 hBL2
 refine Yz 5 rfl ?_
 refine Wp.seq ?_
 refine Yn 2 rfl ?_
 refine Cu rfl (by decide) fun cc1 => ?_
 refine Wp.skip ?_
 refine Yg 1 rfl ?_
 refine Yc rfl rfl (wflowC (i := 0) x0 hm (by decide) hBL2 ?_)
 refine OWp.nil ?_
 refine Yg 1 rfl ?_
 refine Yc rfl rfl (wpressC (i := 1) hk x1 hm (by decide) hBL1 ?_)
 refine OWp.nil ?_
 refine Yg 1 rfl ?_
 refine Yc rfl rfl (wflowC (i := 2) x2 hm (by decide) hBL2 ?_)
 refine OWp.nil ?_
 refine Yg 1 rfl ?_
 refine Yc rfl rfl (wpressC (i := 3) hk x3 hm (by decide) hBL1 ?_)
 refine OWp.nil ?_
 refine Yg 1 rfl ?_
 refine Yc rfl rfl (wtextC x4 hm ?_)
 refine Yz 2 rfl ?_
 refine Wp.ret ⟨trivial, _, ⟨_, _, rfl, rfl, _, _, rfl, rfl, rfl⟩, ?_⟩
 exact ⟨_, _, .refl _, subl, H⟩
theorem wopenC {key block : List UInt8} (hk : KsIn S) (h1 : key.length + 1000 ≤ big) (H : Q (.tuple #[.string (str (blockR (wopen key) block).1), .int .i64 ((blockR (wopen key) block).2 : Nat)]) S) :
  CallWp Tryz.prog B 76 #[.string (str key), .string (str block)] Q S := by
 have hb : big = 281474976710656 := rfl
 by_cases c1 : block.length < 64
 ·have e : blockR (wopen key) block = ([], 3) := by unfold blockR; rw [if_pos c1]
  rw [e] at H
  refine Yx (args := [_, _]) Tryz.func76 Tryz.ntmps76 ?_
  refine Yn 2 rfl ?_
  refine Yg 2 rfl ?_
  refine Yc rfl rfl (wbeginShortC c1 ?_)
  refine Yz 5 rfl ?_
  refine Wp.seq ?_
  refine Yn 2 rfl ?_
  refine Cw rfl (by decide) fun cc1 => ?_
  refine Yn 3 rfl ?_
  refine Wp.ret ⟨trivial, _, ⟨_, _, rfl, rfl, _, _, rfl, rfl, rfl⟩, ?_⟩
  exact H
 by_cases c2 : 8192 < block.length
 ·have e : blockR (wopen key) block = ([], 2) := by unfold blockR; rw [if_neg c1, if_pos c2]
  rw [e] at H
  refine Yx (args := [_, _]) Tryz.func76 Tryz.ntmps76 ?_
  refine Yn 2 rfl ?_
  refine Yg 2 rfl ?_
  refine Yc rfl rfl (wbeginLongC c2 ?_)
  refine Yz 5 rfl ?_
  refine Wp.seq ?_
  refine Yn 2 rfl ?_
  refine Cw rfl (by decide) fun cc1 => ?_
  refine Yn 3 rfl ?_
  refine Wp.ret ⟨trivial, _, ⟨_, _, rfl, rfl, _, _, rfl, rfl, rfl⟩, ?_⟩
  exact H
 have e : blockR (wopen key) block = (wopen key block, 0) := by unfold blockR; rw [if_neg c1, if_neg c2]
 rw [e] at H
 have x0 := halves_halved (b := block) (by omega)
 have hm : block.length - 32 ≤ 8160 := by omega
 have x1 := wpress_halved (key := key) (i := 3) x0
 have x2 := wflow_halved (key := key) (i := 2) x1
 have x3 := wpress_halved (key := key) (i := 1) x2
 have x4 := wflow_halved (key := key) (i := 0) x3
 refine subRet ?_
 refine Yx (args := [_, _]) Tryz.func76 Tryz.ntmps76 ?_
 refine Yn 2 rfl ?_
 refine Yg 2 rfl ?_
 refine Yc rfl rfl (wbeginC hk h1 (by omega) (by omega) ?_)
 intro L L1 L2 g1 g2 p1 p2 hBL hBL1 hBL2
 refine Yz 5 rfl ?_
 refine Wp.seq ?_
 refine Yn 2 rfl ?_
 refine Cu rfl (by decide) fun cc1 => ?_
 refine Wp.skip ?_
 refine Yg 1 rfl ?_
 refine Yc rfl rfl (wpressC (i := 3) hk x0 hm (by decide) hBL1 ?_)
 refine OWp.nil ?_
 refine Yg 1 rfl ?_
 refine Yc rfl rfl (wflowC (i := 2) x1 hm (by decide) hBL2 ?_)
 refine OWp.nil ?_
 refine Yg 1 rfl ?_
 refine Yc rfl rfl (wpressC (i := 1) hk x2 hm (by decide) hBL1 ?_)
 refine OWp.nil ?_
 refine Yg 1 rfl ?_
 refine Yc rfl rfl (wflowC (i := 0) x3 hm (by decide) hBL2 ?_)
 refine OWp.nil ?_
 refine Yg 1 rfl ?_
 refine Yc rfl rfl (wtextC x4 hm ?_)
 refine Yz 2 rfl ?_
 refine Wp.ret ⟨trivial, _, ⟨_, _, rfl, rfl, _, _, rfl, rfl, rfl⟩, ?_⟩
 exact ⟨_, _, .refl _, subl, H⟩
end
end Go.Proofs.D

namespace Go.Proofs.D
open Go.Lg Go.Sha
set_option maxRecDepth 100000

theorem two_bytes {L : Nat} {t : TypeId} {S : Ents} {a b : Int} {x y : UInt8} (ha : a = (x.toNat : Int)) (hb : b = (y.toNat : Int)) :
  Reads ((L, cel [.int .u8 a, .int .u8 b] t) :: S) 1 (.slice (some ⟨L, 0, none⟩) 2 2) 2 (byteCells [x, y]) := by
 subst ha hb; exact Reads.row (k := 2) (sz := 1) (.head _) (Nat.le_of_ble_eq_true rfl)
theorem u8_hi (n : Nat) : IntKind.u8.wrap ((n : Int).fdiv (2 ^ (min 8 IntKind.i64.bits))) = ((UInt8.ofNat (n / 256)).toNat : Int) := by
 rw [Int.fdiv_eq_ediv_of_nonneg _ (by decide), ← u8_lo]; rfl
theorem join_hl (a b : UInt8) : bits .or .i64 (IntKind.i64.wrap (IntKind.i64.wrap (a.toNat : Int) * 2 ^ (min 8 IntKind.i64.bits))) (IntKind.i64.wrap (b.toNat : Int)) = ((a.toNat * 256 + b.toNat : Nat) : Int) := by
 have ha := a.toNat_lt
 have hb := b.toNat_lt
 have e : (2 : Int) ^ (min 8 IntKind.i64.bits) = 256 := by decide
 rw [e, i64_id (x := (a.toNat : Int)) (by omega) (by omega), i64_id (x := (b.toNat : Int)) (by omega) (by omega), i64_id (by omega) (by omega)]
 rw [show (a.toNat : Int) * 256 = ((a.toNat * 256 : Nat) : Int) by omega, Go.Lg.i63_or (by omega) (by omega), Nat.or_comm, or_low (i := 8) (by omega), Nat.add_comm]
theorem wrapR_ok {key text : List UInt8} {n : Nat} (h1 : 64 ≤ n) (h2 : n ≤ 8192) (h3 : text.length + 34 ≤ n) : wrapR key text n = (wshut key (wplain text n), 0) := by
 unfold wrapR
 rw [if_neg (by omega), if_neg (by omega)]; rfl
theorem blockR_ok {f : List UInt8 → List UInt8} {b : List UInt8} (h1 : 64 ≤ b.length) (h2 : b.length ≤ 8192) : blockR f b = (f b, 0) := by
 unfold blockR
 rw [if_neg (by omega), if_neg (by omega)]
theorem blockR_short {f : List UInt8 → List UInt8} {b : List UInt8} (h1 : b.length < 64) : blockR f b = ([], 3) := by
 unfold blockR
 rw [if_pos h1]
theorem blockR_long {f : List UInt8 → List UInt8} {b : List UInt8} (h2 : 8192 < b.length) : blockR f b = ([], 2) := by
 unfold blockR
 rw [if_neg (by omega), if_pos h2]

section
variable {B : Nat} {S R : Ents} {Q : Value → Ents → Prop}

theorem wwrapOkC {key text : List UInt8} {n : Nat} (hk : KsIn S) (h1 : key.length + 1000 ≤ big) (h2 : 64 ≤ n) (h3 : n ≤ 8192) (h4 : text.length + 34 ≤ n)
  (H : Q (.tuple #[.string (str (wshut key (wplain text n))), .int .i64 0]) S) :
  CallWp Tryz.prog B 43 #[.string (str key), .string (str text), .int .i64 (n : Int)] Q S := by
 have hb : big = 281474976710656 := rfl
 have e34 : IntKind.i64.wrap ((n : Int) - 34) = ((n - 34 : Nat) : Int) := by rw [i64_id] <;> omega
 have hpl := wplain_len h4
 refine Yx (args := [_, _, _]) Tryz.func43 Tryz.ntmps43 ?_
 refine Yn 2 rfl ?_
 refine Wp.seq ?_
 refine Wp.block ?_
 refine Yn 3 rfl ?_
 refine Ct rfl (by omega) fun cc1 => ?_
 refine Yg 3 rfl ?_
 refine Dt 15 rfl (by omega) fun cc2 => ?_
 refine Yz 7 rfl ?_
 refine Ct rfl (by rw [e34]; omega) fun cc3 => ?_
 refine Wp.skip ?_
 refine Yg 7 rfl ?_
 refine OWp.step rfl (Step.buildSlice rfl rfl rfl ?_); intro L hBL hLL
 refine OWp.gives rfl rfl (Gives.bytesToStr (F := (L, cel [.int .u8 (IntKind.u8.wrap ((text.length : Int).fdiv (2 ^ (min 8 IntKind.i64.bits)))), .int .u8 (IntKind.u8.wrap (text.length : Int))] 5) :: S) (l := [UInt8.ofNat (text.length / 256), UInt8.ofNat text.length]) (k := 2) rfl rfl rfl rfl rfl (two_bytes (u8_hi _) (u8_lo _))) (fun _ h => h) ?_
 refine Yz 1 rfl ?_
 refine Wp.dropAt 0 rfl ?_
 refine Yg 1 rfl ?_
 refine Yc rfl rfl (zerosEqC (n := 32) rfl (by decide) ?_)
 refine Ye 1 rfl ?_
 refine OWp.g rfl rfl (Gives.addStr rfl rfl rfl (by simp)) ?_
 refine Ye 1 rfl ?_
 refine OWp.g rfl rfl (Gives.addStr rfl rfl rfl (by simp; omega)) ?_
 refine Ye 5 rfl ?_
 refine Yc rfl rfl (zerosEqC (n := n - 34 - text.length) (by rw [e34, i64_id] <;> omega) (by omega) ?_)
 refine OWp.g rfl rfl (Gives.addStr rfl rfl rfl (by simp; omega)) ?_
 have ew : List.replicate 32 (0 : UInt8) ++ [UInt8.ofNat (text.length / 256), UInt8.ofNat text.length] ++ text ++ List.replicate (n - 34 - text.length) 0 = wplain text n := by simp [wplain]
 rw [ew]
 refine Yc rfl rfl (wshutC hk h1 ?_)
 rw [blockR_ok (by omega) (by omega)]
 refine Yz 4 rfl ?_
 refine Wp.ret ⟨trivial, _, ⟨_, _, rfl, rfl, _, _, rfl, rfl, rfl⟩, ?_⟩
 exact H
theorem wwrapC {key text : List UInt8} {n : Int} (hk : KsIn S) (h1 : key.length + 1000 ≤ big)
  (H : Q (.tuple #[.string (str (wrapR key text n).1), .int .i64 ((wrapR key text n).2 : Nat)]) S) :
  CallWp Tryz.prog B 43 #[.string (str key), .string (str text), .int .i64 n] Q S := by
 by_cases c1 : n < 64
 ·have e : wrapR key text n = ([], 3) := by unfold wrapR; rw [if_pos c1]
  rw [e] at H
  refine Yx (args := [_, _, _]) Tryz.func43 Tryz.ntmps43 ?_
  refine Yn 2 rfl ?_
  refine Wp.seq ?_
  refine Wp.block ?_
  refine Yn 3 rfl ?_
  refine Cv rfl (by omega) fun cc1 => ?_
  refine Yn 2 rfl ?_
  refine Wp.ret ⟨trivial, _, ⟨_, _, rfl, rfl, _, _, rfl, rfl, rfl⟩, ?_⟩
  exact H
 by_cases c2 : 8192 < n
 ·have e : wrapR key text n = ([], 2) := by unfold wrapR; rw [if_neg c1, if_pos (.inl c2)]
  rw [e] at H
  refine Yx (args := [_, _, _]) Tryz.func43 Tryz.ntmps43 ?_
  refine Yn 2 rfl ?_
  refine Wp.seq ?_
  refine Wp.block ?_
  refine Yn 3 rfl ?_
  refine Ct rfl (by omega) fun cc1 => ?_
  refine Yg 3 rfl ?_
  refine Dv 15 rfl (by omega) fun cc2 => ?_
  refine Yz 7 rfl ?_
  refine Cy rfl ?_
  refine Yn 2 rfl ?_
  refine Wp.ret ⟨trivial, _, ⟨_, _, rfl, rfl, _, _, rfl, rfl, rfl⟩, ?_⟩
  exact H
 obtain ⟨m, rfl⟩ : ∃ m : Nat, n = (m : Int) := ⟨n.toNat, by omega⟩
 by_cases c3 : (m : Int) - 34 < (text.length : Int)
 ·have e : wrapR key text m = ([], 2) := by unfold wrapR; rw [if_neg c1, if_pos (.inr c3)]
  rw [e] at H
  have e34 : IntKind.i64.wrap ((m : Int) - 34) = (m : Int) - 34 := by rw [i64_id] <;> omega
  refine Yx (args := [_, _, _]) Tryz.func43 Tryz.ntmps43 ?_
  refine Yn 2 rfl ?_
  refine Wp.seq ?_
  refine Wp.block ?_
  refine Yn 3 rfl ?_
  refine Ct rfl (by omega) fun cc1 => ?_
  refine Yg 3 rfl ?_
  refine Dt 15 rfl (by omega) fun cc2 => ?_
  refine Yz 7 rfl ?_
  refine Cv rfl (by rw [e34]; omega) fun cc3 => ?_
  refine Yn 2 rfl ?_
  refine Wp.ret ⟨trivial, _, ⟨_, _, rfl, rfl, _, _, rfl, rfl, rfl⟩, ?_⟩
  exact H
 rw [wrapR_ok (by omega) (by omega) (by omega)] at H
 exact wwrapOkC hk h1 (by omega) (by omega) (by omega) H

theorem wunwrapC {key b : List UInt8} (hk : KsIn S) (h1 : key.length + 1000 ≤ big) 
  (H : Q (.tuple #[.string (str (unwrapR key b).1), .int .i64 ((unwrapR key b).2 : Nat)]) S) :
  CallWp Tryz.prog B 37 #[.string (str key), .string (str b)] Q S := by
 have hb : big = 281474976710656 := rfl
 by_cases c1 : b.length < 64
 ·have e : unwrapR key b = ([], 3) := by unfold unwrapR; rw [if_pos c1]
  rw [e] at H
  refine Yx (args := [_, _]) Tryz.func37 Tryz.ntmps37 ?_
  refine Yn 2 rfl ?_
  refine Yg 2 rfl ?_
  refine Yc rfl rfl (wopenC hk h1 ?_)
  rw [blockR_short c1]
  refine Yz 5 rfl ?_
  refine Wp.seq ?_
  refine Yn 2 rfl ?_
  refine Cw rfl (by decide) fun cc1 => ?_
  refine Yn 3 rfl ?_
  refine Wp.ret ⟨trivial, _, ⟨_, _, rfl, rfl, _, _, rfl, rfl, rfl⟩, ?_⟩
  exact H
 by_cases c2 : 8192 < b.length
 ·have e : unwrapR key b = ([], 2) := by unfold unwrapR; rw [if_neg c1, if_pos c2]
  rw [e] at H
  refine Yx (args := [_, _]) Tryz.func37 Tryz.ntmps37 ?_
  refine Yn 2 rfl ?_
  refine Yg 2 rfl ?_
  refine Yc rfl rfl (wopenC hk h1 ?_)
  rw [blockR_long c2]
  refine Yz 5 rfl ?_
  refine Wp.seq ?_
  refine Yn 2 rfl ?_
  refine Cw rfl (by decide) fun cc1 => ?_
  refine Yn 3 rfl ?_
  refine Wp.ret ⟨trivial, _, ⟨_, _, rfl, rfl, _, _, rfl, rfl, rfl⟩, ?_⟩
  exact H
 have e : unwrapR key b = unwrapT (wtext (wopen key b)) := by unfold unwrapR; rw [if_neg c1, if_neg c2]
 rw [e] at H
 clear e
 have hol := wopen_len key (b := b) (by omega)
 obtain ⟨o, ho⟩ : ∃ o, o = wopen key b := ⟨_, rfl⟩
 rw [← ho] at H hol
 obtain ⟨n, hn⟩ : ∃ n, n = (o.getD 32 0).toNat * 256 + (o.getD 33 0).toNat := ⟨_, rfl⟩
 have hn2 : n < 65536 := by have := (o.getD 32 0).toNat_lt; have := (o.getD 33 0).toNat_lt; omega
 have e34 : IntKind.i64.wrap ((o.length : Int) - 34) = ((o.length - 34 : Nat) : Int) := by rw [i64_id] <;> omega
 have en : IntKind.i64.wrap (34 + (n : Int)) = ((34 + n : Nat) : Int) := by rw [i64_id] <;> omega
 have hw : wtext o = if (o.take 32).all (· == 0) ∧ n ≤ o.length - 34 ∧ (o.drop (34 + n)).all (· == 0) then some ((o.drop 34).take n) else none := by
  unfold wtext; rw [hn]
 have hoff : ∀ l : List UInt8, l.length ≤ 8192 → l.length ≤ big := fun l h => by rw [hb]; omega
 refine Yx (args := [_, _]) Tryz.func37 Tryz.ntmps37 ?_
 refine Yn 2 rfl ?_
 refine Yg 2 rfl ?_
 refine Yc rfl rfl (wopenC hk h1 ?_)
 rw [blockR_ok (by omega) (by omega), ← ho]
 dsimp only
 refine Yz 5 rfl ?_
 refine Wp.seq ?_
 refine Yn 2 rfl ?_
 refine Cu rfl (by decide) fun cc1 => ?_
 refine Wp.skip ?_
 refine Wp.seq (Wp.regionDraw [0, 1, 2, 3, 4, 5, 6, 7, 8] [] rfl (by decide +kernel) ?_)
 refine DWp.evs 1 rfl ?_
 refine DWp.g rfl rfl rfl rfl (Gives.indexStr (b := (o.getD 32 0)) rfl rfl rfl rfl (by decide) (getD_some (by omega))) ?_
 refine DWp.evs 3 rfl ?_
 refine DWp.g rfl rfl rfl rfl (Gives.indexStr (b := (o.getD 33 0)) rfl rfl rfl rfl (by decide) (getD_some (by omega))) ?_
 refine DWp.evs 3 rfl ?_
 refine DWp.nil ?_
 refine Wp.weaken (E' := [(6, .string (str o)), (8, .int .i64 (n : Int))]) (.cons rfl (.cons' rfl (int_eq (by rw [hn]; exact join_hl _ _)) (.nil _))) (fun _ h => h) ?_
 refine Wp.seq ?_
 refine Yg 1 rfl ?_
 refine OWp.g rfl rfl (Gives.sliceStr (l := 0) (h' := 32) rfl rfl rfl rfl ⟨_, _, rfl, rfl⟩ (by omega) (by omega)) ?_
 refine Yc rfl rfl (trimC (l := o.take 32) (hoff _ (by rw [List.length_take]; omega)) ?_)
 refine Ye 2 rfl ?_
 refine OWp.part 30 rfl (fun k1 => ?_) (fun k1 => ?_)
 ·have k1 := ndT k1
  refine Yz 14 rfl ?_
  refine Cy rfl ?_
  refine Yn 2 rfl ?_
  refine Wp.ret ⟨trivial, _, ⟨_, _, rfl, rfl, _, _, rfl, rfl, rfl⟩, ?_⟩
  have : ¬ (o.take 32).all (· == 0) = true := fun h => k1 (trim_all h)
  rw [hw, if_neg (fun h => this h.1)] at H
  exact H
 have k1 := ndF k1
 have k1' := trim_nil.1 k1
 refine Ye 7 rfl ?_
 refine OWp.part 37 rfl (fun k2 => ?_) (fun k2 => ?_)
 ·have k2 := of_decide_eq_true k2
  refine Yz 7 rfl ?_
  refine Cy rfl ?_
  refine Yn 2 rfl ?_
  refine Wp.ret ⟨trivial, _, ⟨_, _, rfl, rfl, _, _, rfl, rfl, rfl⟩, ?_⟩
  rw [e34] at k2
  rw [hw, if_neg (fun h => by omega)] at H
  exact H
 have k2 := of_decide_eq_false k2
 rw [e34] at k2
 refine Ye 3 rfl ?_
 refine OWp.g rfl rfl (Gives.sliceStr (l := (34 + n)) (h' := o.length) rfl rfl rfl ⟨_, _, rfl, en⟩ rfl (by omega) (by omega)) ?_
 have ed : (o.drop (34 + n)).take (o.length - (34 + n)) = o.drop (34 + n) := List.take_of_length_le (by rw [List.length_drop]; exact Nat.le_refl _)
 rw [ed]
 refine Yc rfl rfl (trimC (l := o.drop (34 + n)) (hoff _ (by rw [List.length_drop]; omega)) ?_)
 refine Yz 2 rfl ?_
 refine Wp.cond rfl (fun k3 => ?_) (fun k3 => ?_)
 ·have k3 := ndT k3
  refine Yn 2 rfl ?_
  refine Wp.ret ⟨trivial, _, ⟨_, _, rfl, rfl, _, _, rfl, rfl, rfl⟩, ?_⟩
  have : ¬ (o.drop (34 + n)).all (· == 0) = true := fun h => k3 (trim_all h)
  rw [hw, if_neg (fun h => this h.2.2)] at H
  exact H
 have k3 := ndF k3
 have k3' := trim_nil.1 k3
 refine Wp.skip ?_
 refine Yg 3 rfl ?_
 refine OWp.g rfl rfl (Gives.sliceStr (l := 34) (h' := 34 + n) rfl rfl rfl ⟨_, _, rfl, rfl⟩ ⟨_, _, rfl, en⟩ (by omega) (by omega)) ?_
 refine Yz 2 rfl ?_
 refine Wp.ret ⟨trivial, _, ⟨_, _, rfl, rfl, _, _, rfl, rfl, rfl⟩, ?_⟩
 rw [hw, if_pos ⟨k1', by omega, k3'⟩] at H
 rw [Nat.add_sub_cancel_left]
 exact H
end
end Go.Proofs.D
