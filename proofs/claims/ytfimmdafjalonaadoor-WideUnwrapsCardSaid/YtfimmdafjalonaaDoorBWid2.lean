/- What functions of the given program do, one after the other, told by that layer. -/
import Derived.Test.YtfimmdafjalonaaDoorBWidL
import Derived.Test.YtfimmdafjalonaaDoorBWidW
namespace Go.Proofs.D
open Go.Lg Go.Sha
set_option maxRecDepth 100000

theorem mem1 {a : Nat × Obj} {S : Ents} (h : a ∈ S) : ∀ y ∈ [a], y ∈ S := fun y hy => by rw [List.mem_singleton] at hy; rw [hy]; exact h
theorem brow_reads {L m cap : Nat} {x : List UInt8} {g : List Value} {S : Ents} (hm : x.length = m) (h : brow L x g ∈ S) : Reads S 1 (.slice (some ⟨L, 0, none⟩) m cap) m (byteCells x) := by
  subst hm
  have := Reads.row (sz := 1) (k := x.length) (cap := cap) h (by rw [List.length_append, byteCells_length]; omega)
  rw [Nat.mul_one, List.take_append_of_le_length (by rw [byteCells_length]; exact Nat.le_refl _), List.take_of_length_le (by rw [byteCells_length]; exact Nat.le_refl _)] at this
  exact this

abbrev hlE (L L1 L2 : Nat) (dk : List UInt8) (m c1 c2 : Nat) : Nat × Obj := (L, cel [.string (str dk), .slice (some ⟨L1, 0, none⟩) 32 c1, .slice (some ⟨L2, 0, none⟩) m c2] 84)

theorem subRet {P : Program} {B : Nat} {f : FuncId} {args : Array Value} {Q : Value → Ents → Prop} {S : Ents} (h : CallWp P B f args (fun v S' => ∃ S1 S2 : Ents, S'.Perm S1 ∧ S2.Sublist S1 ∧ Q v S2) S) : CallWp P B f args Q S :=
  fun w hS => (h w hS).mono fun _ _ ⟨v, _, e, hb, hs, _, S2, hp, hsub, q⟩ => ⟨v, S2, e, hb, (hs.perm hp).sublist hsub, q⟩
theorem rot3 {a b c : Nat × Obj} {S : Ents} : (a :: b :: c :: S).Perm (b :: c :: a :: S) := (List.Perm.swap _ _ _).trans (List.Perm.cons _ (List.Perm.swap _ _ _))

section
variable {B : Nat} {S R : Ents} {Q : Value → Ents → Prop}

theorem wmixNC {L m : Nat} {x s : List UInt8} {g : List Value} {cap : Nat} (hm : x.length = m) (hB : B ≤ L) (hx : x.length ≤ big) (hl : x.length ≤ s.length) (H : Q (.tuple #[]) (brow L (xors x s) g :: R)) :
    CallWp Tryd.prog B 60 #[.slice (some ⟨L, 0, none⟩) m cap, .string (str s)] Q (brow L x g :: R) := by
  subst hm; exact wmixC hB hx hl H

theorem wbeginC {key block : List UInt8} (hk : KsIn S) (h1 : key.length + 1000 ≤ big) (h2 : 64 ≤ block.length) (h3 : block.length ≤ 8192)
    (H : ∀ L L1 L2 g1 g2 c1 c2, B ≤ L → B ≤ L1 → B ≤ L2 → Q (.tuple #[pt L, .int .i64 0]) (hlE L L1 L2 (derive key wlabel 128) (block.length - 32) c1 c2 :: brow L2 (block.drop 32) g2 :: brow L1 (block.take 32) g1 :: S)) :
    CallWp Tryd.prog B 33 #[.string (str key), .string (str block)] Q S := by
  have hb : big = 281474976710656 := rfl
  refine CallWp.enter (args := [_, _]) Tryd.func33 rfl Tryd.ntmps33 rfl ?_
  refine Wp.seq (Wp.region ?_)
  refine OWp.evs 2 rfl ?_
  refine OWp.nil ?_
  refine Wp.seq ?_
  refine Wp.block ?_
  refine Wp.seq (Wp.region ?_)
  refine OWp.evs 4 rfl ?_
  refine OWp.nil ?_
  refine Wp.cond rfl (fun cc1 => absurd (of_decide_eq_true cc1) (by omega)) (fun cc1 => ?_)
  have cc1 := of_decide_eq_false cc1
  refine Wp.seq (Wp.region ?_)
  refine OWp.evs 4 rfl ?_
  refine OWp.nil ?_
  refine Wp.cond rfl (fun cc2 => absurd (of_decide_eq_true cc2) (by omega)) (fun cc2 => ?_)
  have cc2 := of_decide_eq_false cc2
  refine Wp.skip ?_
  refine Wp.seq (Wp.region ?_)
  refine OWp.evs 1 rfl ?_
  refine OWp.step rfl (Step.call rfl rfl rfl rfl rfl rfl ((deriveC (label := wlabel) (n := 128) hk (by decide) h1 (by rw [hb]; decide) ?_)))
  refine OWp.evs 5 rfl ?_
  refine OWp.nil ?_
  refine Wp.seq (Wp.regionDraw [0, 1, 2, 3, 5, 6, 10, 13, 13, 13, 13, 13, 13] [4, 7, 9] rfl (by decide +kernel) ?_)
  refine DWp.evs 1 rfl ?_
  refine DWp.g rfl rfl rfl rfl (Gives.build rfl rfl) ?_
  refine DWp.evs 1 rfl ?_
  refine DWp.g rfl rfl rfl rfl (Gives.sliceStr (l := 0) (h' := 32) rfl rfl rfl rfl ⟨_, _, rfl, rfl⟩ (by omega) (by omega)) ?_
  refine DWp.evs 1 rfl ?_
  refine DWp.g rfl rfl rfl rfl (Gives.sliceStr (l := 32) (h' := block.length) rfl rfl rfl ⟨_, _, rfl, rfl⟩ rfl (by omega) (by omega)) ?_
  refine DWp.evs 1 rfl ?_
  refine DWp.fork (i := 4) (j := 7) (r1 := [7, 8, 9, 11, 12]) (r2 := [4, 8, 9, 11, 12]) (by decide +kernel) rfl rfl rfl rfl (by decide +kernel) (by decide +kernel) rfl rfl ?_ ?_
  · skip
    refine (Step.strToBytes rfl rfl rfl rfl rfl rfl ?_); intro L1 g1 p1 hBL1 hLL1 hcL1; refine ⟨fun _ hy => .tail _ hy, ?_⟩
    refine DWp.stepGrow rfl rfl rfl (Step.strToBytes rfl rfl rfl rfl rfl rfl ?_); intro L2 g2 p2 hBL2 hLL2 hcL2; refine ⟨fun _ hy => .tail _ hy, ?_⟩
    refine DWp.g rfl rfl rfl rfl (Gives.build rfl rfl) ?_
    refine DWp.stepGrow rfl rfl rfl (Step.box rfl rfl rfl ?_); intro L hBL hLL; refine ⟨fun _ hy => .tail _ hy, ?_⟩
    refine DWp.evs 2 rfl ?_
    refine DWp.nil ?_
    refine Wp.ret ⟨trivial, _, ⟨_, _, rfl, rfl, _, _, rfl, rfl, rfl⟩, ?_⟩
    have e2 : (block.drop 32).take (block.length - 32) = block.drop 32 := List.take_of_length_le (by rw [List.length_drop]; exact Nat.le_refl _)
    have e1 : (block.drop 0).take (32 - 0) = block.take 32 := rfl
    rw [e2] at hcL2
    obtain rfl : p1 = (block.take 32).length + g1.length := by rw [← hcL1, List.length_append, byteCells_length, e1]
    obtain rfl : p2 = (block.drop 32).length + g2.length := by rw [← hcL2, List.length_append, byteCells_length]
    have := H L L1 L2 g1 g2 ((block.take 32).length + g1.length) ((block.drop 32).length + g2.length) hBL hBL1 hBL2
    have e3 : (block.take 32).length = 32 := by rw [List.length_take]; omega
    simp only [brow, e2, e1, e3, List.length_drop] at this ⊢
    exact this
  refine (Step.strToBytes rfl rfl rfl rfl rfl rfl ?_); intro L2 g2 p2 hBL2 hLL2 hcL2; refine ⟨fun _ hy => .tail _ hy, ?_⟩
  refine DWp.stepGrow rfl rfl rfl (Step.strToBytes rfl rfl rfl rfl rfl rfl ?_); intro L1 g1 p1 hBL1 hLL1 hcL1; refine ⟨fun _ hy => .tail _ hy, ?_⟩
  refine DWp.g rfl rfl rfl rfl (Gives.build rfl rfl) ?_
  refine DWp.stepGrow rfl rfl rfl (Step.box rfl rfl rfl ?_); intro L hBL hLL; refine ⟨fun _ hy => .tail _ hy, ?_⟩
  refine DWp.evs 2 rfl ?_
  refine DWp.nil ?_
  refine Wp.permS (List.Perm.cons _ (List.Perm.swap _ _ _)) ?_
  refine Wp.ret ⟨trivial, _, ⟨_, _, rfl, rfl, _, _, rfl, rfl, rfl⟩, ?_⟩
  have e2 : (block.drop 32).take (block.length - 32) = block.drop 32 := List.take_of_length_le (by rw [List.length_drop]; exact Nat.le_refl _)
  have e1 : (block.drop 0).take (32 - 0) = block.take 32 := rfl
  rw [e2] at hcL2
  obtain rfl : p1 = (block.take 32).length + g1.length := by rw [← hcL1, List.length_append, byteCells_length, e1]
  obtain rfl : p2 = (block.drop 32).length + g2.length := by rw [← hcL2, List.length_append, byteCells_length]
  have := H L L1 L2 g1 g2 ((block.take 32).length + g1.length) ((block.drop 32).length + g2.length) hBL hBL1 hBL2
  have e3 : (block.take 32).length = 32 := by rw [List.length_take]; omega
  simp only [brow, e2, e1, e3, List.length_drop] at this ⊢
  exact this
theorem wbeginShortC {key block : List UInt8} (h2 : block.length < 64) (H : Q (.tuple #[.pointer none, .int .i64 3]) S) :
    CallWp Tryd.prog B 33 #[.string (str key), .string (str block)] Q S := by
  refine CallWp.enter (args := [_, _]) Tryd.func33 rfl Tryd.ntmps33 rfl ?_
  refine Wp.seq (Wp.region ?_)
  refine OWp.evs 2 rfl ?_
  refine OWp.nil ?_
  refine Wp.seq ?_
  refine Wp.block ?_
  refine Wp.seq (Wp.region ?_)
  refine OWp.evs 4 rfl ?_
  refine OWp.nil ?_
  refine Wp.cond rfl (fun cc1 => ?_) (fun cc1 => absurd (of_decide_eq_false cc1) (by omega))
  have cc1 := of_decide_eq_true cc1
  refine Wp.seq (Wp.region ?_)
  refine OWp.evs 2 rfl ?_
  refine OWp.nil ?_
  refine Wp.ret ⟨trivial, _, ⟨_, _, rfl, rfl, _, _, rfl, rfl, rfl⟩, ?_⟩
  exact H
theorem wbeginLongC {key block : List UInt8} (h2 : 8192 < block.length) (H : Q (.tuple #[.pointer none, .int .i64 2]) S) :
    CallWp Tryd.prog B 33 #[.string (str key), .string (str block)] Q S := by
  refine CallWp.enter (args := [_, _]) Tryd.func33 rfl Tryd.ntmps33 rfl ?_
  refine Wp.seq (Wp.region ?_)
  refine OWp.evs 2 rfl ?_
  refine OWp.nil ?_
  refine Wp.seq ?_
  refine Wp.block ?_
  refine Wp.seq (Wp.region ?_)
  refine OWp.evs 4 rfl ?_
  refine OWp.nil ?_
  refine Wp.cond rfl (fun cc1 => absurd (of_decide_eq_true cc1) (by omega)) (fun cc1 => ?_)
  have cc1 := of_decide_eq_false cc1
  refine Wp.seq (Wp.region ?_)
  refine OWp.evs 4 rfl ?_
  refine OWp.nil ?_
  refine Wp.cond rfl (fun cc2 => ?_) (fun cc2 => absurd (of_decide_eq_false cc2) (by omega))
  have cc2 := of_decide_eq_true cc2
  refine Wp.seq (Wp.region ?_)
  refine OWp.evs 2 rfl ?_
  refine OWp.nil ?_
  refine Wp.ret ⟨trivial, _, ⟨_, _, rfl, rfl, _, _, rfl, rfl, rfl⟩, ?_⟩
  exact H
theorem wtextC {L L1 L2 m c1 c2 : Nat} {dk : List UInt8} {x : List UInt8 × List UInt8} {g1 g2 : List Value} (hx : Halved m x) (hm : m ≤ 8160) (H : Q (.string (str (whole x))) (hlE L L1 L2 dk m c1 c2 :: brow L2 x.2 g2 :: brow L1 x.1 g1 :: S)) :
    CallWp Tryd.prog B 36 #[pt L] Q (hlE L L1 L2 dk m c1 c2 :: brow L2 x.2 g2 :: brow L1 x.1 g1 :: S) := by
  have hx1 := hx.1
  have hx2 := hx.2
  refine CallWp.enter (args := [_]) Tryd.func36 rfl Tryd.ntmps36 rfl ?_
  refine Wp.seq (Wp.region ?_)
  refine OWp.evs 1 rfl ?_
  refine OWp.nil ?_
  refine Wp.seq (Wp.regionDraw [0, 1, 2, 3, 4, 5, 6, 7, 8, 9, 10, 11] [] rfl (by decide +kernel) ?_)
  refine DWp.evs 3 rfl ?_
  refine DWp.load (.head _) rfl rfl rfl rfl rfl rfl rfl ?_
  refine DWp.gives rfl rfl rfl rfl (Gives.bytesToStr (F := [brow L1 x.1 g1]) (l := x.1) (k := 32) rfl rfl rfl rfl rfl (brow_reads hx.1 (.head _))) (mem1 (.tail _ (.tail _ (.head _)))) ?_
  refine DWp.evs 3 rfl ?_
  refine DWp.load (.head _) rfl rfl rfl rfl rfl rfl rfl ?_
  refine DWp.gives rfl rfl rfl rfl (Gives.bytesToStr (F := [brow L2 x.2 g2]) (l := x.2) (k := m) rfl rfl rfl rfl rfl (brow_reads hx.2 (.head _))) (mem1 (.tail _ (.head _))) ?_
  refine DWp.g rfl rfl rfl rfl (Gives.addStr rfl rfl rfl (by omega)) ?_
  refine DWp.evs 1 rfl ?_
  refine DWp.nil ?_
  refine Wp.ret ⟨trivial, _, ⟨_, _, rfl, rfl, rfl⟩, ?_⟩
  exact H
theorem wpressC {L L1 L2 m c1 c2 i : Nat} {key : List UInt8} {x : List UInt8 × List UInt8} {g1 g2 : List Value} (hk : KsIn S) (hx : Halved m x) (hm : m ≤ 8160) (hi : i < 4) (hB : B ≤ L1)
    (H : Q (.tuple #[]) (hlE L L1 L2 (derive key wlabel 128) m c1 c2 :: brow L2 (wpress key i x).2 g2 :: brow L1 (wpress key i x).1 g1 :: S)) :
    CallWp Tryd.prog B 35 #[pt L, .int .i64 (i : Int)] Q (hlE L L1 L2 (derive key wlabel 128) m c1 c2 :: brow L2 x.2 g2 :: brow L1 x.1 g1 :: S) := by
  have hb : big = 281474976710656 := rfl
  have hx1 := hx.1
  have hx2 := hx.2
  have hkl := wkey_len key hi
  refine subRet ?_
  refine CallWp.enter (args := [_, _]) Tryd.func35 rfl Tryd.ntmps35 rfl ?_
  refine Wp.regionDraw [0, 1, 2, 3, 4, 5, 6, 7, 8, 10, 11, 12, 13, 14, 18, 18, 18, 18] [9, 15, 16, 17] rfl (by decide +kernel) ?_
  refine DWp.evs 3 rfl ?_
  refine DWp.load (.head _) rfl rfl rfl rfl rfl rfl rfl ?_
  refine DWp.evs 3 rfl ?_
  refine DWp.load (.head _) rfl rfl rfl rfl rfl rfl rfl ?_
  refine DWp.evs 4 rfl ?_
  refine DWp.load (.head _) rfl rfl rfl rfl rfl rfl rfl ?_
  refine DWp.gives rfl rfl rfl rfl (Gives.bytesToStr (F := [brow L2 x.2 g2]) (l := x.2) (k := m) rfl rfl rfl rfl rfl (brow_reads hx.2 (.head _))) (mem1 (.tail _ (.head _))) ?_
  refine DWp.fork (i := 9) (j := 15) (r1 := [15, 16, 17]) (r2 := [9, 16, 17]) (by decide +kernel) rfl rfl rfl rfl (by decide +kernel) (by decide +kernel) rfl rfl ?_ ?_
  · skip
    refine (Step.call rfl rfl rfl rfl rfl rfl ((keyC (expand_len _ _ _) hi ?_)))
    refine ⟨fun _ hy => hy, ?_⟩
    refine DWp.stepGrow rfl rfl rfl (Step.buildSlice rfl rfl rfl ?_); intro Lb hBLb hLLb; refine ⟨fun _ hy => .tail _ hy, ?_⟩
    refine DWp.stepGrow rfl rfl rfl (Step.call rfl rfl rfl rfl rfl rfl ((tagC (key := wkey key i) (l := [x.2]) (Reads.row (k := 1) (sz := 1) (.head _) (Nat.le_of_ble_eq_true rfl)) (by decide) hk.cons.cons.cons.cons (by rw [hkl, hb]; decide) (by rw [hb]; simp; omega) ?_)))
    refine ⟨fun _ hy => hy, ?_⟩
    refine DWp.stepAll rfl rfl rfl rfl (Step.call rfl rfl rfl rfl rfl rfl (CallWp.focus 3 rfl ((wmixNC hx.1 hB (by rw [hb]; omega) (by rw [hmac_len]; omega) ?_))))
    refine DWp.nil ?_
    refine ⟨trivial, [], rfl, ?_⟩
    refine ⟨_, _, (List.Perm.swap _ _ _).trans (.cons _ rot3), List.sublist_cons_self _ _, ?_⟩
    have : [x.2].flatten = x.2 := by simp
    rw [this]; exact H
  refine (Step.buildSlice rfl rfl rfl ?_); intro Lb hBLb hLLb; refine ⟨fun _ hy => .tail _ hy, ?_⟩
  refine DWp.stepGrow rfl rfl rfl (Step.call rfl rfl rfl rfl rfl rfl ((keyC (expand_len _ _ _) hi ?_)))
  refine ⟨fun _ hy => hy, ?_⟩
  refine DWp.stepGrow rfl rfl rfl (Step.call rfl rfl rfl rfl rfl rfl ((tagC (key := wkey key i) (l := [x.2]) (Reads.row (k := 1) (sz := 1) (.head _) (Nat.le_of_ble_eq_true rfl)) (by decide) hk.cons.cons.cons.cons (by rw [hkl, hb]; decide) (by rw [hb]; simp; omega) ?_)))
  refine ⟨fun _ hy => hy, ?_⟩
  refine DWp.stepAll rfl rfl rfl rfl (Step.call rfl rfl rfl rfl rfl rfl (CallWp.focus 3 rfl ((wmixNC hx.1 hB (by rw [hb]; omega) (by rw [hmac_len]; omega) ?_))))
  refine DWp.nil ?_
  refine ⟨trivial, [], rfl, ?_⟩
  refine ⟨_, _, (List.Perm.swap _ _ _).trans (.cons _ rot3), List.sublist_cons_self _ _, ?_⟩
  have : [x.2].flatten = x.2 := by simp
  rw [this]; exact H
theorem wflowC {L L1 L2 m c1 c2 i : Nat} {key : List UInt8} {x : List UInt8 × List UInt8} {g1 g2 : List Value} (hx : Halved m x) (hm : m ≤ 8160) (hi : i < 4) (hB : B ≤ L2)
    (H : Q (.tuple #[]) (hlE L L1 L2 (derive key wlabel 128) m c1 c2 :: brow L2 (wflow key i x).2 g2 :: brow L1 (wflow key i x).1 g1 :: S)) :
    CallWp Tryd.prog B 34 #[pt L, .int .i64 (i : Int)] Q (hlE L L1 L2 (derive key wlabel 128) m c1 c2 :: brow L2 x.2 g2 :: brow L1 x.1 g1 :: S) := by
  have hb : big = 281474976710656 := rfl
  have hx1 := hx.1
  have hx2 := hx.2
  have hkl := wkey_len key hi
  refine subRet ?_
  refine CallWp.enter (args := [_, _]) Tryd.func34 rfl Tryd.ntmps34 rfl ?_
  refine Wp.seq (Wp.region ?_)
  refine OWp.evs 3 rfl ?_
  refine OWp.load (.head _) rfl rfl rfl rfl rfl ?_
  refine OWp.evs 1 rfl ?_
  refine OWp.step rfl (Step.call rfl rfl rfl rfl rfl rfl ((keyC (expand_len _ _ _) hi ?_)))
  refine OWp.step rfl (Step.strToBytes rfl rfl rfl rfl rfl rfl ?_); intro Lk gk pk hBLk hLLk hcLk
  have ek : ((derive key wlabel 128).drop (32 * i)).take 32 = wkey key i := rfl
  rw [ek] at hcLk ⊢
  obtain rfl : pk = (wkey key i).length + gk.length := by rw [← hcLk, List.length_append, byteCells_length]
  refine OWp.evs 1 rfl ?_
  refine OWp.nil ?_
  refine Wp.seq (Wp.region ?_)
  refine OWp.evs 4 rfl ?_
  refine OWp.load (.tail _ (.head _)) rfl rfl rfl rfl rfl ?_
  refine OWp.gives rfl rfl (Gives.bytesToStr (F := [brow L1 x.1 g1]) (l := x.1) (k := 32) rfl rfl rfl rfl rfl (brow_reads hx.1 (.head _))) (mem1 (.tail _ (.tail _ (.tail _ (.head _))))) ?_
  refine OWp.step rfl (Step.call rfl rfl rfl rfl rfl rfl ((wmixC hBLk (by rw [hb]; omega) (by omega) ?_)))
  refine OWp.nil ?_
  refine Wp.seq (Wp.regionDraw [0, 1, 2, 3, 4, 5, 6, 7, 8, 9, 10, 11, 12] [7] rfl (by decide +kernel) ?_)
  refine DWp.evs 1 rfl ?_
  refine DWp.gives rfl rfl rfl rfl (Gives.bytesToStr (F := [brow Lk (xors (wkey key i) x.1) gk]) (l := xors (wkey key i) x.1) (k := (wkey key i).length) rfl rfl rfl rfl rfl (brow_reads (xors_len (by omega)) (.head _))) (mem1 (.head _)) ?_
  refine DWp.evs 3 rfl ?_
  refine DWp.load (.tail _ (.head _)) rfl rfl rfl rfl rfl rfl rfl ?_
  refine DWp.evs 1 rfl ?_
  refine DWp.stepAll rfl rfl rfl rfl (Step.call rfl rfl rfl rfl rfl rfl ((sbytesnC (nonce := zeros12) (n := m) (by rw [xors_len (by omega)]; exact hkl) rfl (by omega) ?_)))
  refine DWp.evs 5 rfl ?_
  refine DWp.nil ?_
  refine Wp.region ?_
  refine OWp.evs 3 rfl ?_
  refine OWp.load (.tail _ (.head _)) rfl rfl rfl rfl rfl ?_
  refine OWp.evs 1 rfl ?_
  refine OWp.step rfl (Step.call rfl rfl rfl rfl rfl rfl (CallWp.focus 2 rfl ((wmixNC hx.2 hB (by rw [hb]; omega) (by rw [stream_len]; omega) ?_))))
  refine OWp.nil ?_
  refine ⟨trivial, [], rfl, ?_⟩
  refine ⟨_, _, rot3, List.sublist_cons_self _ _, ?_⟩
  rw [← hx2] at H ⊢
  exact H
theorem wshutC {key block : List UInt8} (hk : KsIn S) (h1 : key.length + 1000 ≤ big) (H : Q (.tuple #[.string (str (blockR (wshut key) block).1), .int .i64 ((blockR (wshut key) block).2 : Nat)]) S) :
    CallWp Tryd.prog B 14 #[.string (str key), .string (str block)] Q S := by
  have hb : big = 281474976710656 := rfl
  by_cases c1 : block.length < 64
  · have e : blockR (wshut key) block = ([], 3) := by unfold blockR; rw [if_pos c1]
    rw [e] at H
    refine CallWp.enter (args := [_, _]) Tryd.func14 rfl Tryd.ntmps14 rfl ?_
    refine Wp.seq (Wp.region ?_)
    refine OWp.evs 2 rfl ?_
    refine OWp.nil ?_
    refine Wp.seq (Wp.region ?_)
    refine OWp.evs 2 rfl ?_
    refine OWp.step rfl (Step.call rfl rfl rfl rfl rfl rfl ((wbeginShortC c1 ?_)))
    refine OWp.evs 5 rfl ?_
    refine OWp.nil ?_
    refine Wp.seq ?_
    refine Wp.seq (Wp.region ?_)
    refine OWp.evs 2 rfl ?_
    refine OWp.nil ?_
    refine Wp.cond rfl (fun cc1 => ?_) (fun cc1 => absurd (ndF cc1) (by decide))
    have cc1 := ndT cc1
    refine Wp.seq (Wp.region ?_)
    refine OWp.evs 3 rfl ?_
    refine OWp.nil ?_
    refine Wp.ret ⟨trivial, _, ⟨_, _, rfl, rfl, _, _, rfl, rfl, rfl⟩, ?_⟩
    exact H
  by_cases c2 : 8192 < block.length
  · have e : blockR (wshut key) block = ([], 2) := by unfold blockR; rw [if_neg c1, if_pos c2]
    rw [e] at H
    refine CallWp.enter (args := [_, _]) Tryd.func14 rfl Tryd.ntmps14 rfl ?_
    refine Wp.seq (Wp.region ?_)
    refine OWp.evs 2 rfl ?_
    refine OWp.nil ?_
    refine Wp.seq (Wp.region ?_)
    refine OWp.evs 2 rfl ?_
    refine OWp.step rfl (Step.call rfl rfl rfl rfl rfl rfl ((wbeginLongC c2 ?_)))
    refine OWp.evs 5 rfl ?_
    refine OWp.nil ?_
    refine Wp.seq ?_
    refine Wp.seq (Wp.region ?_)
    refine OWp.evs 2 rfl ?_
    refine OWp.nil ?_
    refine Wp.cond rfl (fun cc1 => ?_) (fun cc1 => absurd (ndF cc1) (by decide))
    have cc1 := ndT cc1
    refine Wp.seq (Wp.region ?_)
    refine OWp.evs 3 rfl ?_
    refine OWp.nil ?_
    refine Wp.ret ⟨trivial, _, ⟨_, _, rfl, rfl, _, _, rfl, rfl, rfl⟩, ?_⟩
    exact H
  have e : blockR (wshut key) block = (wshut key block, 0) := by unfold blockR; rw [if_neg c1, if_neg c2]
  rw [e] at H
  have x0 := halves_halved (b := block) (by omega)
  have hm : block.length - 32 ≤ 8160 := by omega
  have x1 := wflow_halved (key := key) (i := 0) x0
  have x2 := wpress_halved (key := key) (i := 1) x1
  have x3 := wflow_halved (key := key) (i := 2) x2
  have x4 := wpress_halved (key := key) (i := 3) x3
  refine subRet ?_
  refine CallWp.enter (args := [_, _]) Tryd.func14 rfl Tryd.ntmps14 rfl ?_
  refine Wp.seq (Wp.region ?_)
  refine OWp.evs 2 rfl ?_
  refine OWp.nil ?_
  refine Wp.seq (Wp.region ?_)
  refine OWp.evs 2 rfl ?_
  refine OWp.step rfl (Step.call rfl rfl rfl rfl rfl rfl ((wbeginC hk h1 (by omega) (by omega) ?_)))
  intro L L1 L2 g1 g2 p1 p2 hBL hBL1 hBL2
  refine OWp.evs 5 rfl ?_
  refine OWp.nil ?_
  refine Wp.seq ?_
  refine Wp.seq (Wp.region ?_)
  refine OWp.evs 2 rfl ?_
  refine OWp.nil ?_
  refine Wp.cond rfl (fun cc1 => absurd (ndT cc1) (by decide)) (fun cc1 => ?_)
  have cc1 := ndF cc1
  refine Wp.skip ?_
  refine Wp.seq (Wp.region ?_)
  refine OWp.evs 1 rfl ?_
  refine OWp.step rfl (Step.call rfl rfl rfl rfl rfl rfl ((wflowC (i := 0) x0 hm (by decide) hBL2 ?_)))
  refine OWp.nil ?_
  refine Wp.seq (Wp.region ?_)
  refine OWp.evs 1 rfl ?_
  refine OWp.step rfl (Step.call rfl rfl rfl rfl rfl rfl ((wpressC (i := 1) hk x1 hm (by decide) hBL1 ?_)))
  refine OWp.nil ?_
  refine Wp.seq (Wp.region ?_)
  refine OWp.evs 1 rfl ?_
  refine OWp.step rfl (Step.call rfl rfl rfl rfl rfl rfl ((wflowC (i := 2) x2 hm (by decide) hBL2 ?_)))
  refine OWp.nil ?_
  refine Wp.seq (Wp.region ?_)
  refine OWp.evs 1 rfl ?_
  refine OWp.step rfl (Step.call rfl rfl rfl rfl rfl rfl ((wpressC (i := 3) hk x3 hm (by decide) hBL1 ?_)))
  refine OWp.nil ?_
  refine Wp.seq (Wp.region ?_)
  refine OWp.evs 1 rfl ?_
  refine OWp.step rfl (Step.call rfl rfl rfl rfl rfl rfl ((wtextC x4 hm ?_)))
  refine OWp.evs 2 rfl ?_
  refine OWp.nil ?_
  refine Wp.ret ⟨trivial, _, ⟨_, _, rfl, rfl, _, _, rfl, rfl, rfl⟩, ?_⟩
  exact ⟨_, _, .refl _, (by repeat (first | exact List.Sublist.refl _ | exact List.sublist_append_right _ _ | apply List.Sublist.cons)), H⟩
theorem wopenC {key block : List UInt8} (hk : KsIn S) (h1 : key.length + 1000 ≤ big) (H : Q (.tuple #[.string (str (blockR (wopen key) block).1), .int .i64 ((blockR (wopen key) block).2 : Nat)]) S) :
    CallWp Tryd.prog B 16 #[.string (str key), .string (str block)] Q S := by
  have hb : big = 281474976710656 := rfl
  by_cases c1 : block.length < 64
  · have e : blockR (wopen key) block = ([], 3) := by unfold blockR; rw [if_pos c1]
    rw [e] at H
    refine CallWp.enter (args := [_, _]) Tryd.func16 rfl Tryd.ntmps16 rfl ?_
    refine Wp.seq (Wp.region ?_)
    refine OWp.evs 2 rfl ?_
    refine OWp.nil ?_
    refine Wp.seq (Wp.region ?_)
    refine OWp.evs 2 rfl ?_
    refine OWp.step rfl (Step.call rfl rfl rfl rfl rfl rfl ((wbeginShortC c1 ?_)))
    refine OWp.evs 5 rfl ?_
    refine OWp.nil ?_
    refine Wp.seq ?_
    refine Wp.seq (Wp.region ?_)
    refine OWp.evs 2 rfl ?_
    refine OWp.nil ?_
    refine Wp.cond rfl (fun cc1 => ?_) (fun cc1 => absurd (ndF cc1) (by decide))
    have cc1 := ndT cc1
    refine Wp.seq (Wp.region ?_)
    refine OWp.evs 3 rfl ?_
    refine OWp.nil ?_
    refine Wp.ret ⟨trivial, _, ⟨_, _, rfl, rfl, _, _, rfl, rfl, rfl⟩, ?_⟩
    exact H
  by_cases c2 : 8192 < block.length
  · have e : blockR (wopen key) block = ([], 2) := by unfold blockR; rw [if_neg c1, if_pos c2]
    rw [e] at H
    refine CallWp.enter (args := [_, _]) Tryd.func16 rfl Tryd.ntmps16 rfl ?_
    refine Wp.seq (Wp.region ?_)
    refine OWp.evs 2 rfl ?_
    refine OWp.nil ?_
    refine Wp.seq (Wp.region ?_)
    refine OWp.evs 2 rfl ?_
    refine OWp.step rfl (Step.call rfl rfl rfl rfl rfl rfl ((wbeginLongC c2 ?_)))
    refine OWp.evs 5 rfl ?_
    refine OWp.nil ?_
    refine Wp.seq ?_
    refine Wp.seq (Wp.region ?_)
    refine OWp.evs 2 rfl ?_
    refine OWp.nil ?_
    refine Wp.cond rfl (fun cc1 => ?_) (fun cc1 => absurd (ndF cc1) (by decide))
    have cc1 := ndT cc1
    refine Wp.seq (Wp.region ?_)
    refine OWp.evs 3 rfl ?_
    refine OWp.nil ?_
    refine Wp.ret ⟨trivial, _, ⟨_, _, rfl, rfl, _, _, rfl, rfl, rfl⟩, ?_⟩
    exact H
  have e : blockR (wopen key) block = (wopen key block, 0) := by unfold blockR; rw [if_neg c1, if_neg c2]
  rw [e] at H
  have x0 := halves_halved (b := block) (by omega)
  have hm : block.length - 32 ≤ 8160 := by omega
  have x1 := wpress_halved (key := key) (i := 3) x0
  have x2 := wflow_halved (key := key) (i := 2) x1
  have x3 := wpress_halved (key := key) (i := 1) x2
  have x4 := wflow_halved (key := key) (i := 0) x3
  refine subRet ?_
  refine CallWp.enter (args := [_, _]) Tryd.func16 rfl Tryd.ntmps16 rfl ?_
  refine Wp.seq (Wp.region ?_)
  refine OWp.evs 2 rfl ?_
  refine OWp.nil ?_
  refine Wp.seq (Wp.region ?_)
  refine OWp.evs 2 rfl ?_
  refine OWp.step rfl (Step.call rfl rfl rfl rfl rfl rfl ((wbeginC hk h1 (by omega) (by omega) ?_)))
  intro L L1 L2 g1 g2 p1 p2 hBL hBL1 hBL2
  refine OWp.evs 5 rfl ?_
  refine OWp.nil ?_
  refine Wp.seq ?_
  refine Wp.seq (Wp.region ?_)
  refine OWp.evs 2 rfl ?_
  refine OWp.nil ?_
  refine Wp.cond rfl (fun cc1 => absurd (ndT cc1) (by decide)) (fun cc1 => ?_)
  have cc1 := ndF cc1
  refine Wp.skip ?_
  refine Wp.seq (Wp.region ?_)
  refine OWp.evs 1 rfl ?_
  refine OWp.step rfl (Step.call rfl rfl rfl rfl rfl rfl ((wpressC (i := 3) hk x0 hm (by decide) hBL1 ?_)))
  refine OWp.nil ?_
  refine Wp.seq (Wp.region ?_)
  refine OWp.evs 1 rfl ?_
  refine OWp.step rfl (Step.call rfl rfl rfl rfl rfl rfl ((wflowC (i := 2) x1 hm (by decide) hBL2 ?_)))
  refine OWp.nil ?_
  refine Wp.seq (Wp.region ?_)
  refine OWp.evs 1 rfl ?_
  refine OWp.step rfl (Step.call rfl rfl rfl rfl rfl rfl ((wpressC (i := 1) hk x2 hm (by decide) hBL1 ?_)))
  refine OWp.nil ?_
  refine Wp.seq (Wp.region ?_)
  refine OWp.evs 1 rfl ?_
  refine OWp.step rfl (Step.call rfl rfl rfl rfl rfl rfl ((wflowC (i := 0) x3 hm (by decide) hBL2 ?_)))
  refine OWp.nil ?_
  refine Wp.seq (Wp.region ?_)
  refine OWp.evs 1 rfl ?_
  refine OWp.step rfl (Step.call rfl rfl rfl rfl rfl rfl ((wtextC x4 hm ?_)))
  refine OWp.evs 2 rfl ?_
  refine OWp.nil ?_
  refine Wp.ret ⟨trivial, _, ⟨_, _, rfl, rfl, _, _, rfl, rfl, rfl⟩, ?_⟩
  exact ⟨_, _, .refl _, (by repeat (first | exact List.Sublist.refl _ | exact List.sublist_append_right _ _ | apply List.Sublist.cons)), H⟩
end
end Go.Proofs.D
