/- What functions of the given program do, one after the other, told by that layer. -/
import Derived.Test.YtkbagleekpgdeaaGreatDoorZM7x4da7
import Derived.Test.YtkbagleekpgdeaaGreatDoorZM6xf9cb
namespace Go.Proofs.D
open Go.Lg Go.Cv Go.Nm
open Go.Proofs.C (zi zi_length zi_one zi_append)
set_option maxRecDepth 100000
/-- The cells of a pair of numbers. -/
def prC (x z : Nat) : List Value := zi (dg (x : Int)) ++ zi (dg (z : Int))
theorem prC_len (x z : Nat) : (prC x z).length = 20 := by unfold prC; rw [List.length_append, zi_length, zi_length, dg_len, dg_len]
theorem pr_x (x z : Nat) : Lg.partAt Tryz.prog 100 (prC x z) 0 = some (nmV x) :=
  partAt_agg (n := 10) (r := zi (dg (x : Int))) (by unfold prC; rw [List.drop_zero, List.take_append_of_le_length (by rw [zi_length, dg_len]; decide), List.take_of_length_le (by rw [zi_length, dg_len]; decide)]) rfl rfl (by rw [zi_length, dg_len])
theorem pr_z (x z : Nat) : Lg.partAt Tryz.prog 100 (prC x z) 10 = some (nmV z) :=
  partAt_agg (n := 10) (r := zi (dg (z : Int))) (by unfold prC; rw [List.drop_append_of_le_length (by rw [zi_length, dg_len]; decide), List.drop_of_length_le (by rw [zi_length, dg_len]; decide), List.nil_append, List.take_of_length_le (by rw [zi_length, dg_len]; decide)]) rfl rfl (by rw [zi_length, dg_len])
theorem pr_part (x z : Nat) : Lg.partAt Tryz.prog 145 (prC x z) 0 = some (.agg (prC x z).toArray) :=
  partAt_agg (n := 20) (r := prC x z) (by rw [List.drop_zero, List.take_of_length_le (by rw [prC_len]; decide)]) rfl rfl (prC_len x z)
theorem prC_one (x z : Nat) : (prC x z).all (·.oneCell') = true := by unfold prC; rw [List.all_append, zi_one, zi_one]; rfl
theorem len_le20 {a b : List Value} (ha : a.length = 20) (hb : b.length = 20) : 0 + a.length ≤ b.length := by omega
theorem ten_of {l : List Value} (h : l.length = 10) : ∃ a0 a1 a2 a3 a4 a5 a6 a7 a8 a9, l = [a0, a1, a2, a3, a4, a5, a6, a7, a8, a9] := by
  match l, h with
  | [a0, a1, a2, a3, a4, a5, a6, a7, a8, a9], _ => exact ⟨a0, a1, a2, a3, a4, a5, a6, a7, a8, a9, rfl⟩
theorem pr_build {E : Env} {x y : Operand} {a b : Nat} (hx : opd E x = some (nmV a)) (hy : opd E y = some (nmV b)) : buildV Tryz.prog E 145 [(0, x), (1, y)] = some (.agg (prC a b).toArray) := by
  have h0 : partsE E [(0, x), (1, y)] = some [(0, nmV a), (1, nmV b)] := by simp only [partsE, hx, hy]
  unfold buildV
  rw [h0]
  unfold nmV prC
  obtain ⟨a0, a1, a2, a3, a4, a5, a6, a7, a8, a9, ha⟩ := ten_of (l := zi (dg (a : Int))) (by rw [zi_length, dg_len])
  obtain ⟨b0, b1, b2, b3, b4, b5, b6, b7, b8, b9, hb⟩ := ten_of (l := zi (dg (b : Int))) (by rw [zi_length, dg_len])
  rw [ha, hb]
  rfl
attribute [local irreducible] dg le32
section
variable {B : Nat} {S R : Ents} {Q : Value → Ents → Prop}
set_option maxHeartbeats 4000000 in
theorem rstepC {u x2 z2 x3 z3 : Nat} (hu : u < q) (h1 : x2 < q) (h2 : z2 < q) (h3 : x3 < q) (h4 : z3 < q) (H : Q (.tuple #[.agg (prC (lstep u ⟨x2, z2, x3, z3⟩).x2 (lstep u ⟨x2, z2, x3, z3⟩).z2).toArray, .agg (prC (lstep u ⟨x2, z2, x3, z3⟩).x3 (lstep u ⟨x2, z2, x3, z3⟩).z3).toArray]) S) : CallWp Tryz.prog B 118 #[nmV u, .agg (prC x2 z2).toArray, .agg (prC x3 z3).toArray] Q S := by
  refine CallWp.dropRet ?_
  refine CallWp.enter (args := [_, _, _]) Tryz.func118 rfl Tryz.ntmps118 rfl ?_
  refine Wp.seq (Wp.region ?_)
  refine OWp.step rfl (Step.box rfl rfl rfl ?_); intro L3 hBL3 hLL3
  refine OWp.step rfl (Step.box rfl rfl rfl ?_); intro L4 hBL4 hLL4
  refine OWp.step rfl (Step.box rfl rfl rfl ?_); intro L5 hBL5 hLL5
  refine OWp.step rfl (Step.alloc rfl rfl rfl ?_); intro L6 hBL6 hLL6
  refine OWp.step rfl (Step.alloc rfl rfl rfl ?_); intro L7 hBL7 hLL7
  obtain ⟨a, ha⟩ : ∃ n, n = addq x2 z2 := ⟨_, rfl⟩
  have la : a < q := ha ▸ addq_lt _ _
  refine OWp.nil ?_
  refine Wp.seq (Wp.region ?_)
  refine OWp.evs 1 rfl ?_
  refine OWp.load (.tail _ (.tail _ (.tail _ (.head _)))) rfl rfl rfl rfl (pr_x x2 z2) ?_
  refine OWp.evs 1 rfl ?_
  refine OWp.load (.tail _ (.tail _ (.tail _ (.head _)))) rfl rfl rfl rfl (pr_z x2 z2) ?_
  refine OWp.step rfl (Step.call rfl rfl rfl rfl rfl rfl ((rplusC h1 h2 ?_)))
  rw [← ha]
  refine OWp.step rfl (Step.alloc rfl rfl rfl ?_); intro L8 hBL8 hLL8
  refine OWp.step rfl (Step.storeAs 0 (zi (dg (a : Int))) rfl rfl rfl rfl rfl hBL8 (show some 10 = some (zi (dg (a : Int))).length from congrArg some (((zi_length _).trans (dg_len _)).symm)) (Unfz.zero _) (zi_one _) (show 0 + (zi (dg (a : Int))).length ≤ _ from len_le ((zi_length _).trans (dg_len _)) rfl) (wr_whole (show (zi (dg (a : Int))).length = _ from ((zi_length _).trans (dg_len _)).trans (Eq.symm rfl))) rfl ?_)
  obtain ⟨b, hb⟩ : ∃ n, n = subq x2 z2 := ⟨_, rfl⟩
  have lb : b < q := hb ▸ subq_lt _ _
  refine OWp.nil ?_
  refine Wp.seq (Wp.region ?_)
  refine OWp.evs 1 rfl ?_
  refine OWp.load (.tail _ (.tail _ (.tail _ (.tail _ (.head _))))) rfl rfl rfl rfl (pr_x x2 z2) ?_
  refine OWp.evs 1 rfl ?_
  refine OWp.load (.tail _ (.tail _ (.tail _ (.tail _ (.head _))))) rfl rfl rfl rfl (pr_z x2 z2) ?_
  refine OWp.step rfl (Step.call rfl rfl rfl rfl rfl rfl ((rlessNC h1 h2 ?_)))
  rw [← hb]
  refine OWp.step rfl (Step.alloc rfl rfl rfl ?_); intro L9 hBL9 hLL9
  refine OWp.step rfl (Step.storeAs 0 (zi (dg (b : Int))) rfl rfl rfl rfl rfl hBL9 (show some 10 = some (zi (dg (b : Int))).length from congrArg some (((zi_length _).trans (dg_len _)).symm)) (Unfz.zero _) (zi_one _) (show 0 + (zi (dg (b : Int))).length ≤ _ from len_le ((zi_length _).trans (dg_len _)) rfl) (wr_whole (show (zi (dg (b : Int))).length = _ from ((zi_length _).trans (dg_len _)).trans (Eq.symm rfl))) rfl ?_)
  obtain ⟨aa, haa⟩ : ∃ n, n = mulq a a := ⟨_, rfl⟩
  have laa : aa < q := haa ▸ mulq_lt _ _
  refine OWp.nil ?_
  refine Wp.seq (Wp.region ?_)
  refine OWp.load (.tail _ (.head _)) rfl rfl rfl rfl (nm_part a) ?_
  refine OWp.load (.tail _ (.head _)) rfl rfl rfl rfl (nm_part a) ?_
  refine OWp.step rfl (Step.call rfl rfl rfl rfl rfl rfl ((rtimesC la la ?_)))
  rw [← haa]
  refine OWp.step rfl (Step.alloc rfl rfl rfl ?_); intro L10 hBL10 hLL10
  refine OWp.step rfl (Step.storeAs 0 (zi (dg (aa : Int))) rfl rfl rfl rfl rfl hBL10 (show some 10 = some (zi (dg (aa : Int))).length from congrArg some (((zi_length _).trans (dg_len _)).symm)) (Unfz.zero _) (zi_one _) (show 0 + (zi (dg (aa : Int))).length ≤ _ from len_le ((zi_length _).trans (dg_len _)) rfl) (wr_whole (show (zi (dg (aa : Int))).length = _ from ((zi_length _).trans (dg_len _)).trans (Eq.symm rfl))) rfl ?_)
  obtain ⟨bb, hbb⟩ : ∃ n, n = mulq b b := ⟨_, rfl⟩
  have lbb : bb < q := hbb ▸ mulq_lt _ _
  refine OWp.nil ?_
  refine Wp.seq (Wp.region ?_)
  refine OWp.load (.tail _ (.head _)) rfl rfl rfl rfl (nm_part b) ?_
  refine OWp.load (.tail _ (.head _)) rfl rfl rfl rfl (nm_part b) ?_
  refine OWp.step rfl (Step.call rfl rfl rfl rfl rfl rfl ((rtimesC lb lb ?_)))
  rw [← hbb]
  refine OWp.step rfl (Step.alloc rfl rfl rfl ?_); intro L11 hBL11 hLL11
  refine OWp.step rfl (Step.storeAs 0 (zi (dg (bb : Int))) rfl rfl rfl rfl rfl hBL11 (show some 10 = some (zi (dg (bb : Int))).length from congrArg some (((zi_length _).trans (dg_len _)).symm)) (Unfz.zero _) (zi_one _) (show 0 + (zi (dg (bb : Int))).length ≤ _ from len_le ((zi_length _).trans (dg_len _)) rfl) (wr_whole (show (zi (dg (bb : Int))).length = _ from ((zi_length _).trans (dg_len _)).trans (Eq.symm rfl))) rfl ?_)
  obtain ⟨e, he⟩ : ∃ n, n = subq aa bb := ⟨_, rfl⟩
  have le : e < q := he ▸ subq_lt _ _
  refine OWp.nil ?_
  refine Wp.seq (Wp.region ?_)
  refine OWp.load (.tail _ (.head _)) rfl rfl rfl rfl (nm_part aa) ?_
  refine OWp.load (.head _) rfl rfl rfl rfl (nm_part bb) ?_
  refine OWp.step rfl (Step.call rfl rfl rfl rfl rfl rfl ((rlessNC laa lbb ?_)))
  rw [← he]
  refine OWp.step rfl (Step.alloc rfl rfl rfl ?_); intro L12 hBL12 hLL12
  refine OWp.step rfl (Step.storeAs 0 (zi (dg (e : Int))) rfl rfl rfl rfl rfl hBL12 (show some 10 = some (zi (dg (e : Int))).length from congrArg some (((zi_length _).trans (dg_len _)).symm)) (Unfz.zero _) (zi_one _) (show 0 + (zi (dg (e : Int))).length ≤ _ from len_le ((zi_length _).trans (dg_len _)) rfl) (wr_whole (show (zi (dg (e : Int))).length = _ from ((zi_length _).trans (dg_len _)).trans (Eq.symm rfl))) rfl ?_)
  obtain ⟨d0, hd0⟩ : ∃ n, n = subq x3 z3 := ⟨_, rfl⟩
  have ld0 : d0 < q := hd0 ▸ subq_lt _ _
  obtain ⟨da, hda⟩ : ∃ n, n = mulq d0 a := ⟨_, rfl⟩
  have lda : da < q := hda ▸ mulq_lt _ _
  refine OWp.nil ?_
  refine Wp.seqS (α := Nat) (fun L13 => [(3, pn L3), (4, pn L4), (5, pn L5), (6, pn L6), (7, pn L7), (8, pn L8), (9, pn L9), (10, pn L10), (11, pn L11), (12, pn L12), (13, pn L13)]) (fun L13 => (L13, cel (zi (dg (da : Int))) 100) :: (L12, cel (zi (dg (e : Int))) 100) :: (L11, cel (zi (dg (bb : Int))) 100) :: (L10, cel (zi (dg (aa : Int))) 100) :: (L9, cel (zi (dg (b : Int))) 100) :: (L8, cel (zi (dg (a : Int))) 100) :: (L7, cel (List.replicate 20 (.int .i64 0)) 145) :: (L6, cel (List.replicate 20 (.int .i64 0)) 145) :: (L5, cel (prC x3 z3) 145) :: (L4, cel (prC x2 z2) 145) :: (L3, cel (zi (dg (u : Int))) 100) :: S) (fun L13 => B ≤ L13) ?_ ?_
  · skip
    refine Wp.regionDraw [0, 1, 2, 3, 5, 9, 9, 9, 9] [4, 6, 7, 8] rfl (by decide +kernel) ?_
    refine DWp.evs 1 rfl ?_
    refine DWp.load (.tail _ (.tail _ (.tail _ (.tail _ (.tail _ (.tail _ (.tail _ (.head _)))))))) rfl rfl rfl rfl rfl rfl (pr_x x3 z3) ?_
    refine DWp.evs 1 rfl ?_
    refine DWp.load (.tail _ (.tail _ (.tail _ (.tail _ (.tail _ (.tail _ (.tail _ (.head _)))))))) rfl rfl rfl rfl rfl rfl (pr_z x3 z3) ?_
    refine DWp.load (.tail _ (.tail _ (.tail _ (.tail _ (.head _))))) rfl rfl rfl rfl rfl rfl (nm_part a) ?_
    refine DWp.forkTo [4, 7] (by decide +kernel) (by simp) ?_
    intro xx hxx
    simp only [List.mem_cons, List.mem_nil_iff, or_false] at hxx
    rcases hxx with rfl | rfl
    · refine ⟨_, [9, 9, 9], rfl, rfl, by decide +kernel, rfl, ?_⟩
      refine (Step.call rfl rfl rfl rfl rfl rfl (rlessNC h3 h4 ?_))
      rw [← hd0]
      refine prs ?_
      refine DWp.forkTo [6, 7] (by decide +kernel) (by simp) ?_
      intro xx hxx
      simp only [List.mem_cons, List.mem_nil_iff, or_false] at hxx
      rcases hxx with rfl | rfl
      · refine ⟨_, [7, 8], rfl, rfl, by decide +kernel, rfl, ?_⟩
        refine (Step.call rfl rfl rfl rfl rfl rfl (rtimesC ld0 la ?_))
        rw [← hda]
        refine prs ?_
        refine DWp.step rfl rfl rfl (Step.alloc rfl rfl rfl ?_); intro L13 hBL13 hLL13
        refine prs ?_
        refine DWp.step rfl rfl rfl (Step.storeAs 0 (zi (dg (da : Int))) rfl rfl rfl rfl rfl hBL13 (show some 10 = some (zi (dg (da : Int))).length from congrArg some (((zi_length _).trans (dg_len _)).symm)) (Unfz.zero _) (zi_one _) (show 0 + (zi (dg (da : Int))).length ≤ _ from len_le ((zi_length _).trans (dg_len _)) rfl) (wr_whole (show (zi (dg (da : Int))).length = _ from ((zi_length _).trans (dg_len _)).trans (Eq.symm rfl))) rfl ?_)
        refine prs ?_
        refine DWp.nil ?_
        exact ⟨L13, hBL13, .cons rfl (.cons rfl (.cons rfl (.cons rfl (.cons rfl (.cons rfl (.cons rfl (.cons rfl (.cons rfl (.cons rfl (.cons rfl (.nil _))))))))))), (show List.Perm ((L13, cel (zi (dg (da : Int))) 100) :: ((L12, cel (zi (dg (e : Int))) 100) :: (L11, cel (zi (dg (bb : Int))) 100) :: (L10, cel (zi (dg (aa : Int))) 100) :: (L9, cel (zi (dg (b : Int))) 100) :: (L8, cel (zi (dg (a : Int))) 100) :: (L7, cel (List.replicate 20 (.int .i64 0)) 145) :: (L6, cel (List.replicate 20 (.int .i64 0)) 145) :: (L5, cel (prC x3 z3) 145) :: (L4, cel (prC x2 z2) 145) :: (L3, cel (zi (dg (u : Int))) 100) :: S)) ((L13, cel (zi (dg (da : Int))) 100) :: ((L12, cel (zi (dg (e : Int))) 100) :: (L11, cel (zi (dg (bb : Int))) 100) :: (L10, cel (zi (dg (aa : Int))) 100) :: (L9, cel (zi (dg (b : Int))) 100) :: (L8, cel (zi (dg (a : Int))) 100) :: (L7, cel (List.replicate 20 (.int .i64 0)) 145) :: (L6, cel (List.replicate 20 (.int .i64 0)) 145) :: (L5, cel (prC x3 z3) 145) :: (L4, cel (prC x2 z2) 145) :: (L3, cel (zi (dg (u : Int))) 100) :: S)) from permBy [[(L13, cel (zi (dg (da : Int))) 100)]] ((L12, cel (zi (dg (e : Int))) 100) :: (L11, cel (zi (dg (bb : Int))) 100) :: (L10, cel (zi (dg (aa : Int))) 100) :: (L9, cel (zi (dg (b : Int))) 100) :: (L8, cel (zi (dg (a : Int))) 100) :: (L7, cel (List.replicate 20 (.int .i64 0)) 145) :: (L6, cel (List.replicate 20 (.int .i64 0)) 145) :: (L5, cel (prC x3 z3) 145) :: (L4, cel (prC x2 z2) 145) :: (L3, cel (zi (dg (u : Int))) 100) :: S) [0] [0] (by decide))⟩
      · refine ⟨_, [6, 8], rfl, rfl, by decide +kernel, rfl, ?_⟩
        refine (Step.alloc rfl rfl rfl ?_); intro L13 hBL13 hLL13
        refine prs ?_
        refine DWp.step rfl rfl rfl (Step.call rfl rfl rfl rfl rfl rfl (rtimesC ld0 la ?_))
        rw [← hda]
        refine prs ?_
        refine DWp.step rfl rfl rfl (Step.storeAs 0 (zi (dg (da : Int))) rfl rfl rfl rfl rfl hBL13 (show some 10 = some (zi (dg (da : Int))).length from congrArg some (((zi_length _).trans (dg_len _)).symm)) (Unfz.zero _) (zi_one _) (show 0 + (zi (dg (da : Int))).length ≤ _ from len_le ((zi_length _).trans (dg_len _)) rfl) (wr_whole (show (zi (dg (da : Int))).length = _ from ((zi_length _).trans (dg_len _)).trans (Eq.symm rfl))) rfl ?_)
        refine prs ?_
        refine DWp.nil ?_
        exact ⟨L13, hBL13, .cons rfl (.cons rfl (.cons rfl (.cons rfl (.cons rfl (.cons rfl (.cons rfl (.cons rfl (.cons rfl (.cons rfl (.cons rfl (.nil _))))))))))), (show List.Perm ((L13, cel (zi (dg (da : Int))) 100) :: ((L12, cel (zi (dg (e : Int))) 100) :: (L11, cel (zi (dg (bb : Int))) 100) :: (L10, cel (zi (dg (aa : Int))) 100) :: (L9, cel (zi (dg (b : Int))) 100) :: (L8, cel (zi (dg (a : Int))) 100) :: (L7, cel (List.replicate 20 (.int .i64 0)) 145) :: (L6, cel (List.replicate 20 (.int .i64 0)) 145) :: (L5, cel (prC x3 z3) 145) :: (L4, cel (prC x2 z2) 145) :: (L3, cel (zi (dg (u : Int))) 100) :: S)) ((L13, cel (zi (dg (da : Int))) 100) :: ((L12, cel (zi (dg (e : Int))) 100) :: (L11, cel (zi (dg (bb : Int))) 100) :: (L10, cel (zi (dg (aa : Int))) 100) :: (L9, cel (zi (dg (b : Int))) 100) :: (L8, cel (zi (dg (a : Int))) 100) :: (L7, cel (List.replicate 20 (.int .i64 0)) 145) :: (L6, cel (List.replicate 20 (.int .i64 0)) 145) :: (L5, cel (prC x3 z3) 145) :: (L4, cel (prC x2 z2) 145) :: (L3, cel (zi (dg (u : Int))) 100) :: S)) from permBy [[(L13, cel (zi (dg (da : Int))) 100)]] ((L12, cel (zi (dg (e : Int))) 100) :: (L11, cel (zi (dg (bb : Int))) 100) :: (L10, cel (zi (dg (aa : Int))) 100) :: (L9, cel (zi (dg (b : Int))) 100) :: (L8, cel (zi (dg (a : Int))) 100) :: (L7, cel (List.replicate 20 (.int .i64 0)) 145) :: (L6, cel (List.replicate 20 (.int .i64 0)) 145) :: (L5, cel (prC x3 z3) 145) :: (L4, cel (prC x2 z2) 145) :: (L3, cel (zi (dg (u : Int))) 100) :: S) [0] [0] (by decide))⟩
    · refine ⟨_, [4, 6, 8], rfl, rfl, by decide +kernel, rfl, ?_⟩
      refine (Step.alloc rfl rfl rfl ?_); intro L13 hBL13 hLL13
      refine prs ?_
      refine DWp.step rfl rfl rfl (Step.call rfl rfl rfl rfl rfl rfl (rlessNC h3 h4 ?_))
      rw [← hd0]
      refine prs ?_
      refine DWp.step rfl rfl rfl (Step.call rfl rfl rfl rfl rfl rfl (rtimesC ld0 la ?_))
      rw [← hda]
      refine prs ?_
      refine DWp.step rfl rfl rfl (Step.storeAs 0 (zi (dg (da : Int))) rfl rfl rfl rfl rfl hBL13 (show some 10 = some (zi (dg (da : Int))).length from congrArg some (((zi_length _).trans (dg_len _)).symm)) (Unfz.zero _) (zi_one _) (show 0 + (zi (dg (da : Int))).length ≤ _ from len_le ((zi_length _).trans (dg_len _)) rfl) (wr_whole (show (zi (dg (da : Int))).length = _ from ((zi_length _).trans (dg_len _)).trans (Eq.symm rfl))) rfl ?_)
      refine prs ?_
      refine DWp.nil ?_
      exact ⟨L13, hBL13, .cons rfl (.cons rfl (.cons rfl (.cons rfl (.cons rfl (.cons rfl (.cons rfl (.cons rfl (.cons rfl (.cons rfl (.cons rfl (.nil _))))))))))), (show List.Perm ((L13, cel (zi (dg (da : Int))) 100) :: ((L12, cel (zi (dg (e : Int))) 100) :: (L11, cel (zi (dg (bb : Int))) 100) :: (L10, cel (zi (dg (aa : Int))) 100) :: (L9, cel (zi (dg (b : Int))) 100) :: (L8, cel (zi (dg (a : Int))) 100) :: (L7, cel (List.replicate 20 (.int .i64 0)) 145) :: (L6, cel (List.replicate 20 (.int .i64 0)) 145) :: (L5, cel (prC x3 z3) 145) :: (L4, cel (prC x2 z2) 145) :: (L3, cel (zi (dg (u : Int))) 100) :: S)) ((L13, cel (zi (dg (da : Int))) 100) :: ((L12, cel (zi (dg (e : Int))) 100) :: (L11, cel (zi (dg (bb : Int))) 100) :: (L10, cel (zi (dg (aa : Int))) 100) :: (L9, cel (zi (dg (b : Int))) 100) :: (L8, cel (zi (dg (a : Int))) 100) :: (L7, cel (List.replicate 20 (.int .i64 0)) 145) :: (L6, cel (List.replicate 20 (.int .i64 0)) 145) :: (L5, cel (prC x3 z3) 145) :: (L4, cel (prC x2 z2) 145) :: (L3, cel (zi (dg (u : Int))) 100) :: S)) from permBy [[(L13, cel (zi (dg (da : Int))) 100)]] ((L12, cel (zi (dg (e : Int))) 100) :: (L11, cel (zi (dg (bb : Int))) 100) :: (L10, cel (zi (dg (aa : Int))) 100) :: (L9, cel (zi (dg (b : Int))) 100) :: (L8, cel (zi (dg (a : Int))) 100) :: (L7, cel (List.replicate 20 (.int .i64 0)) 145) :: (L6, cel (List.replicate 20 (.int .i64 0)) 145) :: (L5, cel (prC x3 z3) 145) :: (L4, cel (prC x2 z2) 145) :: (L3, cel (zi (dg (u : Int))) 100) :: S) [0] [0] (by decide))⟩
  intro L13 hBL13
  obtain ⟨c0, hc0⟩ : ∃ n, n = addq x3 z3 := ⟨_, rfl⟩
  have lc0 : c0 < q := hc0 ▸ addq_lt _ _
  obtain ⟨cb, hcb⟩ : ∃ n, n = mulq c0 b := ⟨_, rfl⟩
  have lcb : cb < q := hcb ▸ mulq_lt _ _
  refine Wp.seqS (α := Nat) (fun L14 => [(3, pn L3), (4, pn L4), (5, pn L5), (6, pn L6), (7, pn L7), (8, pn L8), (9, pn L9), (10, pn L10), (11, pn L11), (12, pn L12), (13, pn L13), (14, pn L14)]) (fun L14 => (L14, cel (zi (dg (cb : Int))) 100) :: (L13, cel (zi (dg (da : Int))) 100) :: (L12, cel (zi (dg (e : Int))) 100) :: (L11, cel (zi (dg (bb : Int))) 100) :: (L10, cel (zi (dg (aa : Int))) 100) :: (L9, cel (zi (dg (b : Int))) 100) :: (L8, cel (zi (dg (a : Int))) 100) :: (L7, cel (List.replicate 20 (.int .i64 0)) 145) :: (L6, cel (List.replicate 20 (.int .i64 0)) 145) :: (L5, cel (prC x3 z3) 145) :: (L4, cel (prC x2 z2) 145) :: (L3, cel (zi (dg (u : Int))) 100) :: S) (fun L14 => B ≤ L14) ?_ ?_
  · skip
    refine Wp.regionDraw [0, 1, 2, 3, 5, 9, 9, 9, 9] [4, 6, 7, 8] rfl (by decide +kernel) ?_
    refine DWp.evs 1 rfl ?_
    refine DWp.load (.tail _ (.tail _ (.tail _ (.tail _ (.tail _ (.tail _ (.tail _ (.tail _ (.head _))))))))) rfl rfl rfl rfl rfl rfl (pr_x x3 z3) ?_
    refine DWp.evs 1 rfl ?_
    refine DWp.load (.tail _ (.tail _ (.tail _ (.tail _ (.tail _ (.tail _ (.tail _ (.tail _ (.head _))))))))) rfl rfl rfl rfl rfl rfl (pr_z x3 z3) ?_
    refine DWp.load (.tail _ (.tail _ (.tail _ (.tail _ (.head _))))) rfl rfl rfl rfl rfl rfl (nm_part b) ?_
    refine DWp.forkTo [4, 7] (by decide +kernel) (by simp) ?_
    intro xx hxx
    simp only [List.mem_cons, List.mem_nil_iff, or_false] at hxx
    rcases hxx with rfl | rfl
    · refine ⟨_, [9, 9, 9], rfl, rfl, by decide +kernel, rfl, ?_⟩
      refine (Step.call rfl rfl rfl rfl rfl rfl (rplusC h3 h4 ?_))
      rw [← hc0]
      refine prs ?_
      refine DWp.forkTo [6, 7] (by decide +kernel) (by simp) ?_
      intro xx hxx
      simp only [List.mem_cons, List.mem_nil_iff, or_false] at hxx
      rcases hxx with rfl | rfl
      · refine ⟨_, [7, 8], rfl, rfl, by decide +kernel, rfl, ?_⟩
        refine (Step.call rfl rfl rfl rfl rfl rfl (rtimesC lc0 lb ?_))
        rw [← hcb]
        refine prs ?_
        refine DWp.step rfl rfl rfl (Step.alloc rfl rfl rfl ?_); intro L14 hBL14 hLL14
        refine prs ?_
        refine DWp.step rfl rfl rfl (Step.storeAs 0 (zi (dg (cb : Int))) rfl rfl rfl rfl rfl hBL14 (show some 10 = some (zi (dg (cb : Int))).length from congrArg some (((zi_length _).trans (dg_len _)).symm)) (Unfz.zero _) (zi_one _) (show 0 + (zi (dg (cb : Int))).length ≤ _ from len_le ((zi_length _).trans (dg_len _)) rfl) (wr_whole (show (zi (dg (cb : Int))).length = _ from ((zi_length _).trans (dg_len _)).trans (Eq.symm rfl))) rfl ?_)
        refine prs ?_
        refine DWp.nil ?_
        exact ⟨L14, hBL14, .cons rfl (.cons rfl (.cons rfl (.cons rfl (.cons rfl (.cons rfl (.cons rfl (.cons rfl (.cons rfl (.cons rfl (.cons rfl (.cons rfl (.nil _)))))))))))), (show List.Perm ((L14, cel (zi (dg (cb : Int))) 100) :: ((L13, cel (zi (dg (da : Int))) 100) :: (L12, cel (zi (dg (e : Int))) 100) :: (L11, cel (zi (dg (bb : Int))) 100) :: (L10, cel (zi (dg (aa : Int))) 100) :: (L9, cel (zi (dg (b : Int))) 100) :: (L8, cel (zi (dg (a : Int))) 100) :: (L7, cel (List.replicate 20 (.int .i64 0)) 145) :: (L6, cel (List.replicate 20 (.int .i64 0)) 145) :: (L5, cel (prC x3 z3) 145) :: (L4, cel (prC x2 z2) 145) :: (L3, cel (zi (dg (u : Int))) 100) :: S)) ((L14, cel (zi (dg (cb : Int))) 100) :: ((L13, cel (zi (dg (da : Int))) 100) :: (L12, cel (zi (dg (e : Int))) 100) :: (L11, cel (zi (dg (bb : Int))) 100) :: (L10, cel (zi (dg (aa : Int))) 100) :: (L9, cel (zi (dg (b : Int))) 100) :: (L8, cel (zi (dg (a : Int))) 100) :: (L7, cel (List.replicate 20 (.int .i64 0)) 145) :: (L6, cel (List.replicate 20 (.int .i64 0)) 145) :: (L5, cel (prC x3 z3) 145) :: (L4, cel (prC x2 z2) 145) :: (L3, cel (zi (dg (u : Int))) 100) :: S)) from permBy [[(L14, cel (zi (dg (cb : Int))) 100)]] ((L13, cel (zi (dg (da : Int))) 100) :: (L12, cel (zi (dg (e : Int))) 100) :: (L11, cel (zi (dg (bb : Int))) 100) :: (L10, cel (zi (dg (aa : Int))) 100) :: (L9, cel (zi (dg (b : Int))) 100) :: (L8, cel (zi (dg (a : Int))) 100) :: (L7, cel (List.replicate 20 (.int .i64 0)) 145) :: (L6, cel (List.replicate 20 (.int .i64 0)) 145) :: (L5, cel (prC x3 z3) 145) :: (L4, cel (prC x2 z2) 145) :: (L3, cel (zi (dg (u : Int))) 100) :: S) [0] [0] (by decide))⟩
      · refine ⟨_, [6, 8], rfl, rfl, by decide +kernel, rfl, ?_⟩
        refine (Step.alloc rfl rfl rfl ?_); intro L14 hBL14 hLL14
        refine prs ?_
        refine DWp.step rfl rfl rfl (Step.call rfl rfl rfl rfl rfl rfl (rtimesC lc0 lb ?_))
        rw [← hcb]
        refine prs ?_
        refine DWp.step rfl rfl rfl (Step.storeAs 0 (zi (dg (cb : Int))) rfl rfl rfl rfl rfl hBL14 (show some 10 = some (zi (dg (cb : Int))).length from congrArg some (((zi_length _).trans (dg_len _)).symm)) (Unfz.zero _) (zi_one _) (show 0 + (zi (dg (cb : Int))).length ≤ _ from len_le ((zi_length _).trans (dg_len _)) rfl) (wr_whole (show (zi (dg (cb : Int))).length = _ from ((zi_length _).trans (dg_len _)).trans (Eq.symm rfl))) rfl ?_)
        refine prs ?_
        refine DWp.nil ?_
        exact ⟨L14, hBL14, .cons rfl (.cons rfl (.cons rfl (.cons rfl (.cons rfl (.cons rfl (.cons rfl (.cons rfl (.cons rfl (.cons rfl (.cons rfl (.cons rfl (.nil _)))))))))))), (show List.Perm ((L14, cel (zi (dg (cb : Int))) 100) :: ((L13, cel (zi (dg (da : Int))) 100) :: (L12, cel (zi (dg (e : Int))) 100) :: (L11, cel (zi (dg (bb : Int))) 100) :: (L10, cel (zi (dg (aa : Int))) 100) :: (L9, cel (zi (dg (b : Int))) 100) :: (L8, cel (zi (dg (a : Int))) 100) :: (L7, cel (List.replicate 20 (.int .i64 0)) 145) :: (L6, cel (List.replicate 20 (.int .i64 0)) 145) :: (L5, cel (prC x3 z3) 145) :: (L4, cel (prC x2 z2) 145) :: (L3, cel (zi (dg (u : Int))) 100) :: S)) ((L14, cel (zi (dg (cb : Int))) 100) :: ((L13, cel (zi (dg (da : Int))) 100) :: (L12, cel (zi (dg (e : Int))) 100) :: (L11, cel (zi (dg (bb : Int))) 100) :: (L10, cel (zi (dg (aa : Int))) 100) :: (L9, cel (zi (dg (b : Int))) 100) :: (L8, cel (zi (dg (a : Int))) 100) :: (L7, cel (List.replicate 20 (.int .i64 0)) 145) :: (L6, cel (List.replicate 20 (.int .i64 0)) 145) :: (L5, cel (prC x3 z3) 145) :: (L4, cel (prC x2 z2) 145) :: (L3, cel (zi (dg (u : Int))) 100) :: S)) from permBy [[(L14, cel (zi (dg (cb : Int))) 100)]] ((L13, cel (zi (dg (da : Int))) 100) :: (L12, cel (zi (dg (e : Int))) 100) :: (L11, cel (zi (dg (bb : Int))) 100) :: (L10, cel (zi (dg (aa : Int))) 100) :: (L9, cel (zi (dg (b : Int))) 100) :: (L8, cel (zi (dg (a : Int))) 100) :: (L7, cel (List.replicate 20 (.int .i64 0)) 145) :: (L6, cel (List.replicate 20 (.int .i64 0)) 145) :: (L5, cel (prC x3 z3) 145) :: (L4, cel (prC x2 z2) 145) :: (L3, cel (zi (dg (u : Int))) 100) :: S) [0] [0] (by decide))⟩
    · refine ⟨_, [4, 6, 8], rfl, rfl, by decide +kernel, rfl, ?_⟩
      refine (Step.alloc rfl rfl rfl ?_); intro L14 hBL14 hLL14
      refine prs ?_
      refine DWp.step rfl rfl rfl (Step.call rfl rfl rfl rfl rfl rfl (rplusC h3 h4 ?_))
      rw [← hc0]
      refine prs ?_
      refine DWp.step rfl rfl rfl (Step.call rfl rfl rfl rfl rfl rfl (rtimesC lc0 lb ?_))
      rw [← hcb]
      refine prs ?_
      refine DWp.step rfl rfl rfl (Step.storeAs 0 (zi (dg (cb : Int))) rfl rfl rfl rfl rfl hBL14 (show some 10 = some (zi (dg (cb : Int))).length from congrArg some (((zi_length _).trans (dg_len _)).symm)) (Unfz.zero _) (zi_one _) (show 0 + (zi (dg (cb : Int))).length ≤ _ from len_le ((zi_length _).trans (dg_len _)) rfl) (wr_whole (show (zi (dg (cb : Int))).length = _ from ((zi_length _).trans (dg_len _)).trans (Eq.symm rfl))) rfl ?_)
      refine prs ?_
      refine DWp.nil ?_
      exact ⟨L14, hBL14, .cons rfl (.cons rfl (.cons rfl (.cons rfl (.cons rfl (.cons rfl (.cons rfl (.cons rfl (.cons rfl (.cons rfl (.cons rfl (.cons rfl (.nil _)))))))))))), (show List.Perm ((L14, cel (zi (dg (cb : Int))) 100) :: ((L13, cel (zi (dg (da : Int))) 100) :: (L12, cel (zi (dg (e : Int))) 100) :: (L11, cel (zi (dg (bb : Int))) 100) :: (L10, cel (zi (dg (aa : Int))) 100) :: (L9, cel (zi (dg (b : Int))) 100) :: (L8, cel (zi (dg (a : Int))) 100) :: (L7, cel (List.replicate 20 (.int .i64 0)) 145) :: (L6, cel (List.replicate 20 (.int .i64 0)) 145) :: (L5, cel (prC x3 z3) 145) :: (L4, cel (prC x2 z2) 145) :: (L3, cel (zi (dg (u : Int))) 100) :: S)) ((L14, cel (zi (dg (cb : Int))) 100) :: ((L13, cel (zi (dg (da : Int))) 100) :: (L12, cel (zi (dg (e : Int))) 100) :: (L11, cel (zi (dg (bb : Int))) 100) :: (L10, cel (zi (dg (aa : Int))) 100) :: (L9, cel (zi (dg (b : Int))) 100) :: (L8, cel (zi (dg (a : Int))) 100) :: (L7, cel (List.replicate 20 (.int .i64 0)) 145) :: (L6, cel (List.replicate 20 (.int .i64 0)) 145) :: (L5, cel (prC x3 z3) 145) :: (L4, cel (prC x2 z2) 145) :: (L3, cel (zi (dg (u : Int))) 100) :: S)) from permBy [[(L14, cel (zi (dg (cb : Int))) 100)]] ((L13, cel (zi (dg (da : Int))) 100) :: (L12, cel (zi (dg (e : Int))) 100) :: (L11, cel (zi (dg (bb : Int))) 100) :: (L10, cel (zi (dg (aa : Int))) 100) :: (L9, cel (zi (dg (b : Int))) 100) :: (L8, cel (zi (dg (a : Int))) 100) :: (L7, cel (List.replicate 20 (.int .i64 0)) 145) :: (L6, cel (List.replicate 20 (.int .i64 0)) 145) :: (L5, cel (prC x3 z3) 145) :: (L4, cel (prC x2 z2) 145) :: (L3, cel (zi (dg (u : Int))) 100) :: S) [0] [0] (by decide))⟩
  intro L14 hBL14
  obtain ⟨s, hs⟩ : ∃ n, n = addq da cb := ⟨_, rfl⟩
  have ls : s < q := hs ▸ addq_lt _ _
  refine Wp.seq (Wp.region ?_)
  refine OWp.load (.tail _ (.head _)) rfl rfl rfl rfl (nm_part da) ?_
  refine OWp.load (.head _) rfl rfl rfl rfl (nm_part cb) ?_
  refine OWp.step rfl (Step.call rfl rfl rfl rfl rfl rfl ((rplusC lda lcb ?_)))
  rw [← hs]
  refine OWp.step rfl (Step.alloc rfl rfl rfl ?_); intro L15 hBL15 hLL15
  refine OWp.step rfl (Step.storeAs 0 (zi (dg (s : Int))) rfl rfl rfl rfl rfl hBL15 (show some 10 = some (zi (dg (s : Int))).length from congrArg some (((zi_length _).trans (dg_len _)).symm)) (Unfz.zero _) (zi_one _) (show 0 + (zi (dg (s : Int))).length ≤ _ from len_le ((zi_length _).trans (dg_len _)) rfl) (wr_whole (show (zi (dg (s : Int))).length = _ from ((zi_length _).trans (dg_len _)).trans (Eq.symm rfl))) rfl ?_)
  obtain ⟨d, hd⟩ : ∃ n, n = subq da cb := ⟨_, rfl⟩
  have ld : d < q := hd ▸ subq_lt _ _
  refine OWp.nil ?_
  refine Wp.seq (Wp.region ?_)
  refine OWp.load (.tail _ (.tail _ (.head _))) rfl rfl rfl rfl (nm_part da) ?_
  refine OWp.load (.tail _ (.head _)) rfl rfl rfl rfl (nm_part cb) ?_
  refine OWp.step rfl (Step.call rfl rfl rfl rfl rfl rfl ((rlessNC lda lcb ?_)))
  rw [← hd]
  refine OWp.step rfl (Step.alloc rfl rfl rfl ?_); intro L16 hBL16 hLL16
  refine OWp.step rfl (Step.storeAs 0 (zi (dg (d : Int))) rfl rfl rfl rfl rfl hBL16 (show some 10 = some (zi (dg (d : Int))).length from congrArg some (((zi_length _).trans (dg_len _)).symm)) (Unfz.zero _) (zi_one _) (show 0 + (zi (dg (d : Int))).length ≤ _ from len_le ((zi_length _).trans (dg_len _)) rfl) (wr_whole (show (zi (dg (d : Int))).length = _ from ((zi_length _).trans (dg_len _)).trans (Eq.symm rfl))) rfl ?_)
  obtain ⟨ss, hss⟩ : ∃ n, n = mulq s s := ⟨_, rfl⟩
  have lss : ss < q := hss ▸ mulq_lt _ _
  obtain ⟨dd, hdd⟩ : ∃ n, n = mulq d d := ⟨_, rfl⟩
  have ldd : dd < q := hdd ▸ mulq_lt _ _
  obtain ⟨ud, hud⟩ : ∃ n, n = mulq u dd := ⟨_, rfl⟩
  have lud : ud < q := hud ▸ mulq_lt _ _
  refine OWp.nil ?_
  refine Wp.seqS (α := Nat) (fun L17 => [(3, pn L3), (4, pn L4), (5, pn L5), (6, pn L6), (7, pn L7), (8, pn L8), (9, pn L9), (10, pn L10), (11, pn L11), (12, pn L12), (13, pn L13), (14, pn L14), (15, pn L15), (16, pn L16), (17, pn L17)]) (fun L17 => (L17, cel (prC ss ud) 145) :: (L16, cel (zi (dg (d : Int))) 100) :: (L15, cel (zi (dg (s : Int))) 100) :: (L14, cel (zi (dg (cb : Int))) 100) :: (L13, cel (zi (dg (da : Int))) 100) :: (L12, cel (zi (dg (e : Int))) 100) :: (L11, cel (zi (dg (bb : Int))) 100) :: (L10, cel (zi (dg (aa : Int))) 100) :: (L9, cel (zi (dg (b : Int))) 100) :: (L8, cel (zi (dg (a : Int))) 100) :: (L7, cel (List.replicate 20 (.int .i64 0)) 145) :: (L6, cel (List.replicate 20 (.int .i64 0)) 145) :: (L5, cel (prC x3 z3) 145) :: (L4, cel (prC x2 z2) 145) :: (L3, cel (zi (dg (u : Int))) 100) :: S) (fun L17 => B ≤ L17) ?_ ?_
  · skip
    refine Wp.regionDraw [0, 1, 3, 4, 5, 11, 11, 11, 11, 11, 11] [2, 6, 7, 9, 10] rfl (by decide +kernel) ?_
    refine DWp.load (.tail _ (.head _)) rfl rfl rfl rfl rfl rfl (nm_part s) ?_
    refine DWp.load (.tail _ (.head _)) rfl rfl rfl rfl rfl rfl (nm_part s) ?_
    refine DWp.load (.tail _ (.tail _ (.tail _ (.tail _ (.tail _ (.tail _ (.tail _ (.tail _ (.tail _ (.tail _ (.tail _ (.tail _ (.tail _ (.head _)))))))))))))) rfl rfl rfl rfl rfl rfl (nm_part u) ?_
    refine DWp.load (.head _) rfl rfl rfl rfl rfl rfl (nm_part d) ?_
    refine DWp.load (.head _) rfl rfl rfl rfl rfl rfl (nm_part d) ?_
    refine DWp.forkTo [2, 9] (by decide +kernel) (by simp) ?_
    intro xx hxx
    simp only [List.mem_cons, List.mem_nil_iff, or_false] at hxx
    rcases hxx with rfl | rfl
    · refine ⟨_, [11, 11, 11, 11, 11], rfl, rfl, by decide +kernel, rfl, ?_⟩
      refine (Step.call rfl rfl rfl rfl rfl rfl (rtimesC ls ls ?_))
      rw [← hss]
      refine prs ?_
      refine DWp.forkTo [6, 9] (by decide +kernel) (by simp) ?_
      intro xx hxx
      simp only [List.mem_cons, List.mem_nil_iff, or_false] at hxx
      rcases hxx with rfl | rfl
      · refine ⟨_, [11, 11, 11, 11], rfl, rfl, by decide +kernel, rfl, ?_⟩
        refine (Step.call rfl rfl rfl rfl rfl rfl (rtimesC ld ld ?_))
        rw [← hdd]
        refine prs ?_
        refine DWp.forkTo [7, 9] (by decide +kernel) (by simp) ?_
        intro xx hxx
        simp only [List.mem_cons, List.mem_nil_iff, or_false] at hxx
        rcases hxx with rfl | rfl
        · refine ⟨_, [8, 9, 10], rfl, rfl, by decide +kernel, rfl, ?_⟩
          refine (Step.call rfl rfl rfl rfl rfl rfl (rtimesC hu ldd ?_))
          rw [← hud]
          refine prs ?_
          refine DWp.g rfl rfl rfl rfl (Gives.build rfl (pr_build (a := ss) (b := ud) rfl rfl)) ?_
          refine DWp.step rfl rfl rfl (Step.alloc rfl rfl rfl ?_); intro L17 hBL17 hLL17
          refine prs ?_
          refine DWp.step rfl rfl rfl (Step.storeAs 0 (prC ss ud) rfl rfl rfl rfl rfl hBL17 (show some 20 = some (prC ss ud).length from congrArg some (prC_len ss ud).symm) (Unfz.zero _) (prC_one ss ud) (show 0 + (prC ss ud).length ≤ _ from len_le20 (prC_len ss ud) rfl) (wr_whole (show (prC ss ud).length = _ from (prC_len ss ud).trans (Eq.symm rfl))) rfl ?_)
          refine prs ?_
          refine DWp.nil ?_
          exact ⟨L17, hBL17, .cons rfl (.cons rfl (.cons rfl (.cons rfl (.cons rfl (.cons rfl (.cons rfl (.cons rfl (.cons rfl (.cons rfl (.cons rfl (.cons rfl (.cons rfl (.cons rfl (.cons rfl (.nil _))))))))))))))), (show List.Perm ((L17, cel (prC ss ud) 145) :: ((L16, cel (zi (dg (d : Int))) 100) :: (L15, cel (zi (dg (s : Int))) 100) :: (L14, cel (zi (dg (cb : Int))) 100) :: (L13, cel (zi (dg (da : Int))) 100) :: (L12, cel (zi (dg (e : Int))) 100) :: (L11, cel (zi (dg (bb : Int))) 100) :: (L10, cel (zi (dg (aa : Int))) 100) :: (L9, cel (zi (dg (b : Int))) 100) :: (L8, cel (zi (dg (a : Int))) 100) :: (L7, cel (List.replicate 20 (.int .i64 0)) 145) :: (L6, cel (List.replicate 20 (.int .i64 0)) 145) :: (L5, cel (prC x3 z3) 145) :: (L4, cel (prC x2 z2) 145) :: (L3, cel (zi (dg (u : Int))) 100) :: S)) ((L17, cel (prC ss ud) 145) :: ((L16, cel (zi (dg (d : Int))) 100) :: (L15, cel (zi (dg (s : Int))) 100) :: (L14, cel (zi (dg (cb : Int))) 100) :: (L13, cel (zi (dg (da : Int))) 100) :: (L12, cel (zi (dg (e : Int))) 100) :: (L11, cel (zi (dg (bb : Int))) 100) :: (L10, cel (zi (dg (aa : Int))) 100) :: (L9, cel (zi (dg (b : Int))) 100) :: (L8, cel (zi (dg (a : Int))) 100) :: (L7, cel (List.replicate 20 (.int .i64 0)) 145) :: (L6, cel (List.replicate 20 (.int .i64 0)) 145) :: (L5, cel (prC x3 z3) 145) :: (L4, cel (prC x2 z2) 145) :: (L3, cel (zi (dg (u : Int))) 100) :: S)) from permBy [[(L17, cel (prC ss ud) 145)]] ((L16, cel (zi (dg (d : Int))) 100) :: (L15, cel (zi (dg (s : Int))) 100) :: (L14, cel (zi (dg (cb : Int))) 100) :: (L13, cel (zi (dg (da : Int))) 100) :: (L12, cel (zi (dg (e : Int))) 100) :: (L11, cel (zi (dg (bb : Int))) 100) :: (L10, cel (zi (dg (aa : Int))) 100) :: (L9, cel (zi (dg (b : Int))) 100) :: (L8, cel (zi (dg (a : Int))) 100) :: (L7, cel (List.replicate 20 (.int .i64 0)) 145) :: (L6, cel (List.replicate 20 (.int .i64 0)) 145) :: (L5, cel (prC x3 z3) 145) :: (L4, cel (prC x2 z2) 145) :: (L3, cel (zi (dg (u : Int))) 100) :: S) [0] [0] (by decide))⟩
        · refine ⟨_, [7, 8, 10], rfl, rfl, by decide +kernel, rfl, ?_⟩
          refine (Step.alloc rfl rfl rfl ?_); intro L17 hBL17 hLL17
          refine prs ?_
          refine DWp.step rfl rfl rfl (Step.call rfl rfl rfl rfl rfl rfl (rtimesC hu ldd ?_))
          rw [← hud]
          refine prs ?_
          refine DWp.g rfl rfl rfl rfl (Gives.build rfl (pr_build (a := ss) (b := ud) rfl rfl)) ?_
          refine DWp.step rfl rfl rfl (Step.storeAs 0 (prC ss ud) rfl rfl rfl rfl rfl hBL17 (show some 20 = some (prC ss ud).length from congrArg some (prC_len ss ud).symm) (Unfz.zero _) (prC_one ss ud) (show 0 + (prC ss ud).length ≤ _ from len_le20 (prC_len ss ud) rfl) (wr_whole (show (prC ss ud).length = _ from (prC_len ss ud).trans (Eq.symm rfl))) rfl ?_)
          refine prs ?_
          refine DWp.nil ?_
          exact ⟨L17, hBL17, .cons rfl (.cons rfl (.cons rfl (.cons rfl (.cons rfl (.cons rfl (.cons rfl (.cons rfl (.cons rfl (.cons rfl (.cons rfl (.cons rfl (.cons rfl (.cons rfl (.cons rfl (.nil _))))))))))))))), (show List.Perm ((L17, cel (prC ss ud) 145) :: ((L16, cel (zi (dg (d : Int))) 100) :: (L15, cel (zi (dg (s : Int))) 100) :: (L14, cel (zi (dg (cb : Int))) 100) :: (L13, cel (zi (dg (da : Int))) 100) :: (L12, cel (zi (dg (e : Int))) 100) :: (L11, cel (zi (dg (bb : Int))) 100) :: (L10, cel (zi (dg (aa : Int))) 100) :: (L9, cel (zi (dg (b : Int))) 100) :: (L8, cel (zi (dg (a : Int))) 100) :: (L7, cel (List.replicate 20 (.int .i64 0)) 145) :: (L6, cel (List.replicate 20 (.int .i64 0)) 145) :: (L5, cel (prC x3 z3) 145) :: (L4, cel (prC x2 z2) 145) :: (L3, cel (zi (dg (u : Int))) 100) :: S)) ((L17, cel (prC ss ud) 145) :: ((L16, cel (zi (dg (d : Int))) 100) :: (L15, cel (zi (dg (s : Int))) 100) :: (L14, cel (zi (dg (cb : Int))) 100) :: (L13, cel (zi (dg (da : Int))) 100) :: (L12, cel (zi (dg (e : Int))) 100) :: (L11, cel (zi (dg (bb : Int))) 100) :: (L10, cel (zi (dg (aa : Int))) 100) :: (L9, cel (zi (dg (b : Int))) 100) :: (L8, cel (zi (dg (a : Int))) 100) :: (L7, cel (List.replicate 20 (.int .i64 0)) 145) :: (L6, cel (List.replicate 20 (.int .i64 0)) 145) :: (L5, cel (prC x3 z3) 145) :: (L4, cel (prC x2 z2) 145) :: (L3, cel (zi (dg (u : Int))) 100) :: S)) from permBy [[(L17, cel (prC ss ud) 145)]] ((L16, cel (zi (dg (d : Int))) 100) :: (L15, cel (zi (dg (s : Int))) 100) :: (L14, cel (zi (dg (cb : Int))) 100) :: (L13, cel (zi (dg (da : Int))) 100) :: (L12, cel (zi (dg (e : Int))) 100) :: (L11, cel (zi (dg (bb : Int))) 100) :: (L10, cel (zi (dg (aa : Int))) 100) :: (L9, cel (zi (dg (b : Int))) 100) :: (L8, cel (zi (dg (a : Int))) 100) :: (L7, cel (List.replicate 20 (.int .i64 0)) 145) :: (L6, cel (List.replicate 20 (.int .i64 0)) 145) :: (L5, cel (prC x3 z3) 145) :: (L4, cel (prC x2 z2) 145) :: (L3, cel (zi (dg (u : Int))) 100) :: S) [0] [0] (by decide))⟩
      · refine ⟨_, [6, 7, 8, 10], rfl, rfl, by decide +kernel, rfl, ?_⟩
        refine (Step.alloc rfl rfl rfl ?_); intro L17 hBL17 hLL17
        refine prs ?_
        refine DWp.step rfl rfl rfl (Step.call rfl rfl rfl rfl rfl rfl (rtimesC ld ld ?_))
        rw [← hdd]
        refine prs ?_
        refine DWp.step rfl rfl rfl (Step.call rfl rfl rfl rfl rfl rfl (rtimesC hu ldd ?_))
        rw [← hud]
        refine prs ?_
        refine DWp.g rfl rfl rfl rfl (Gives.build rfl (pr_build (a := ss) (b := ud) rfl rfl)) ?_
        refine DWp.step rfl rfl rfl (Step.storeAs 0 (prC ss ud) rfl rfl rfl rfl rfl hBL17 (show some 20 = some (prC ss ud).length from congrArg some (prC_len ss ud).symm) (Unfz.zero _) (prC_one ss ud) (show 0 + (prC ss ud).length ≤ _ from len_le20 (prC_len ss ud) rfl) (wr_whole (show (prC ss ud).length = _ from (prC_len ss ud).trans (Eq.symm rfl))) rfl ?_)
        refine prs ?_
        refine DWp.nil ?_
        exact ⟨L17, hBL17, .cons rfl (.cons rfl (.cons rfl (.cons rfl (.cons rfl (.cons rfl (.cons rfl (.cons rfl (.cons rfl (.cons rfl (.cons rfl (.cons rfl (.cons rfl (.cons rfl (.cons rfl (.nil _))))))))))))))), (show List.Perm ((L17, cel (prC ss ud) 145) :: ((L16, cel (zi (dg (d : Int))) 100) :: (L15, cel (zi (dg (s : Int))) 100) :: (L14, cel (zi (dg (cb : Int))) 100) :: (L13, cel (zi (dg (da : Int))) 100) :: (L12, cel (zi (dg (e : Int))) 100) :: (L11, cel (zi (dg (bb : Int))) 100) :: (L10, cel (zi (dg (aa : Int))) 100) :: (L9, cel (zi (dg (b : Int))) 100) :: (L8, cel (zi (dg (a : Int))) 100) :: (L7, cel (List.replicate 20 (.int .i64 0)) 145) :: (L6, cel (List.replicate 20 (.int .i64 0)) 145) :: (L5, cel (prC x3 z3) 145) :: (L4, cel (prC x2 z2) 145) :: (L3, cel (zi (dg (u : Int))) 100) :: S)) ((L17, cel (prC ss ud) 145) :: ((L16, cel (zi (dg (d : Int))) 100) :: (L15, cel (zi (dg (s : Int))) 100) :: (L14, cel (zi (dg (cb : Int))) 100) :: (L13, cel (zi (dg (da : Int))) 100) :: (L12, cel (zi (dg (e : Int))) 100) :: (L11, cel (zi (dg (bb : Int))) 100) :: (L10, cel (zi (dg (aa : Int))) 100) :: (L9, cel (zi (dg (b : Int))) 100) :: (L8, cel (zi (dg (a : Int))) 100) :: (L7, cel (List.replicate 20 (.int .i64 0)) 145) :: (L6, cel (List.replicate 20 (.int .i64 0)) 145) :: (L5, cel (prC x3 z3) 145) :: (L4, cel (prC x2 z2) 145) :: (L3, cel (zi (dg (u : Int))) 100) :: S)) from permBy [[(L17, cel (prC ss ud) 145)]] ((L16, cel (zi (dg (d : Int))) 100) :: (L15, cel (zi (dg (s : Int))) 100) :: (L14, cel (zi (dg (cb : Int))) 100) :: (L13, cel (zi (dg (da : Int))) 100) :: (L12, cel (zi (dg (e : Int))) 100) :: (L11, cel (zi (dg (bb : Int))) 100) :: (L10, cel (zi (dg (aa : Int))) 100) :: (L9, cel (zi (dg (b : Int))) 100) :: (L8, cel (zi (dg (a : Int))) 100) :: (L7, cel (List.replicate 20 (.int .i64 0)) 145) :: (L6, cel (List.replicate 20 (.int .i64 0)) 145) :: (L5, cel (prC x3 z3) 145) :: (L4, cel (prC x2 z2) 145) :: (L3, cel (zi (dg (u : Int))) 100) :: S) [0] [0] (by decide))⟩
    · refine ⟨_, [2, 6, 7, 8, 10], rfl, rfl, by decide +kernel, rfl, ?_⟩
      refine (Step.alloc rfl rfl rfl ?_); intro L17 hBL17 hLL17
      refine prs ?_
      refine DWp.step rfl rfl rfl (Step.call rfl rfl rfl rfl rfl rfl (rtimesC ls ls ?_))
      rw [← hss]
      refine prs ?_
      refine DWp.step rfl rfl rfl (Step.call rfl rfl rfl rfl rfl rfl (rtimesC ld ld ?_))
      rw [← hdd]
      refine prs ?_
      refine DWp.step rfl rfl rfl (Step.call rfl rfl rfl rfl rfl rfl (rtimesC hu ldd ?_))
      rw [← hud]
      refine prs ?_
      refine DWp.g rfl rfl rfl rfl (Gives.build rfl (pr_build (a := ss) (b := ud) rfl rfl)) ?_
      refine DWp.step rfl rfl rfl (Step.storeAs 0 (prC ss ud) rfl rfl rfl rfl rfl hBL17 (show some 20 = some (prC ss ud).length from congrArg some (prC_len ss ud).symm) (Unfz.zero _) (prC_one ss ud) (show 0 + (prC ss ud).length ≤ _ from len_le20 (prC_len ss ud) rfl) (wr_whole (show (prC ss ud).length = _ from (prC_len ss ud).trans (Eq.symm rfl))) rfl ?_)
      refine prs ?_
      refine DWp.nil ?_
      exact ⟨L17, hBL17, .cons rfl (.cons rfl (.cons rfl (.cons rfl (.cons rfl (.cons rfl (.cons rfl (.cons rfl (.cons rfl (.cons rfl (.cons rfl (.cons rfl (.cons rfl (.cons rfl (.cons rfl (.nil _))))))))))))))), (show List.Perm ((L17, cel (prC ss ud) 145) :: ((L16, cel (zi (dg (d : Int))) 100) :: (L15, cel (zi (dg (s : Int))) 100) :: (L14, cel (zi (dg (cb : Int))) 100) :: (L13, cel (zi (dg (da : Int))) 100) :: (L12, cel (zi (dg (e : Int))) 100) :: (L11, cel (zi (dg (bb : Int))) 100) :: (L10, cel (zi (dg (aa : Int))) 100) :: (L9, cel (zi (dg (b : Int))) 100) :: (L8, cel (zi (dg (a : Int))) 100) :: (L7, cel (List.replicate 20 (.int .i64 0)) 145) :: (L6, cel (List.replicate 20 (.int .i64 0)) 145) :: (L5, cel (prC x3 z3) 145) :: (L4, cel (prC x2 z2) 145) :: (L3, cel (zi (dg (u : Int))) 100) :: S)) ((L17, cel (prC ss ud) 145) :: ((L16, cel (zi (dg (d : Int))) 100) :: (L15, cel (zi (dg (s : Int))) 100) :: (L14, cel (zi (dg (cb : Int))) 100) :: (L13, cel (zi (dg (da : Int))) 100) :: (L12, cel (zi (dg (e : Int))) 100) :: (L11, cel (zi (dg (bb : Int))) 100) :: (L10, cel (zi (dg (aa : Int))) 100) :: (L9, cel (zi (dg (b : Int))) 100) :: (L8, cel (zi (dg (a : Int))) 100) :: (L7, cel (List.replicate 20 (.int .i64 0)) 145) :: (L6, cel (List.replicate 20 (.int .i64 0)) 145) :: (L5, cel (prC x3 z3) 145) :: (L4, cel (prC x2 z2) 145) :: (L3, cel (zi (dg (u : Int))) 100) :: S)) from permBy [[(L17, cel (prC ss ud) 145)]] ((L16, cel (zi (dg (d : Int))) 100) :: (L15, cel (zi (dg (s : Int))) 100) :: (L14, cel (zi (dg (cb : Int))) 100) :: (L13, cel (zi (dg (da : Int))) 100) :: (L12, cel (zi (dg (e : Int))) 100) :: (L11, cel (zi (dg (bb : Int))) 100) :: (L10, cel (zi (dg (aa : Int))) 100) :: (L9, cel (zi (dg (b : Int))) 100) :: (L8, cel (zi (dg (a : Int))) 100) :: (L7, cel (List.replicate 20 (.int .i64 0)) 145) :: (L6, cel (List.replicate 20 (.int .i64 0)) 145) :: (L5, cel (prC x3 z3) 145) :: (L4, cel (prC x2 z2) 145) :: (L3, cel (zi (dg (u : Int))) 100) :: S) [0] [0] (by decide))⟩
  intro L17 hBL17
  refine Wp.seq (Wp.region ?_)
  refine OWp.g rfl rfl (Gives.build rfl rfl) ?_
  refine OWp.step rfl (Step.alloc rfl rfl rfl ?_); intro L18 hBL18 hLL18
  refine OWp.step rfl (Step.storeAs 0 (zi (dg ((121665 : Nat) : Int))) rfl rfl rfl rfl rfl (by assumption) rfl (Unfz.zero _) rfl (Nat.le_of_ble_eq_true rfl) (by rw [show dg ((121665 : Nat) : Int) = [121665, 0, 0, 0, 0, 0, 0, 0, 0, 0] from dg_small 121665 (by decide) (by decide)]; rfl) rfl ?_)
  obtain ⟨aabb, haabb⟩ : ∃ n, n = mulq aa bb := ⟨_, rfl⟩
  have laabb : aabb < q := haabb ▸ mulq_lt _ _
  obtain ⟨te, hte⟩ : ∃ n, n = mulq 121665 e := ⟨_, rfl⟩
  have lte : te < q := hte ▸ mulq_lt _ _
  obtain ⟨ta, hta⟩ : ∃ n, n = addq aa te := ⟨_, rfl⟩
  have lta : ta < q := hta ▸ addq_lt _ _
  obtain ⟨tt, htt⟩ : ∃ n, n = mulq e ta := ⟨_, rfl⟩
  have ltt : tt < q := htt ▸ mulq_lt _ _
  refine OWp.nil ?_
  refine Wp.seqS (α := Nat) (fun L19 => [(3, pn L3), (4, pn L4), (5, pn L5), (6, pn L6), (7, pn L7), (8, pn L8), (9, pn L9), (10, pn L10), (11, pn L11), (12, pn L12), (13, pn L13), (14, pn L14), (15, pn L15), (16, pn L16), (17, pn L17), (18, pn L18), (19, pn L19)]) (fun L19 => (L19, cel (prC aabb tt) 145) :: (L18, cel (zi (dg ((121665 : Nat) : Int))) 100) :: (L17, cel (prC ss ud) 145) :: (L16, cel (zi (dg (d : Int))) 100) :: (L15, cel (zi (dg (s : Int))) 100) :: (L14, cel (zi (dg (cb : Int))) 100) :: (L13, cel (zi (dg (da : Int))) 100) :: (L12, cel (zi (dg (e : Int))) 100) :: (L11, cel (zi (dg (bb : Int))) 100) :: (L10, cel (zi (dg (aa : Int))) 100) :: (L9, cel (zi (dg (b : Int))) 100) :: (L8, cel (zi (dg (a : Int))) 100) :: (L7, cel (List.replicate 20 (.int .i64 0)) 145) :: (L6, cel (List.replicate 20 (.int .i64 0)) 145) :: (L5, cel (prC x3 z3) 145) :: (L4, cel (prC x2 z2) 145) :: (L3, cel (zi (dg (u : Int))) 100) :: S) (fun L19 => B ≤ L19) ?_ ?_
  · skip
    refine Wp.regionDraw [0, 1, 3, 4, 5, 6, 13, 13, 13, 13, 13, 13, 13] [2, 7, 8, 9, 11, 12] rfl (by decide +kernel) ?_
    refine DWp.load (.tail _ (.tail _ (.tail _ (.tail _ (.tail _ (.tail _ (.tail _ (.tail _ (.head _))))))))) rfl rfl rfl rfl rfl rfl (nm_part aa) ?_
    refine DWp.load (.tail _ (.tail _ (.tail _ (.tail _ (.tail _ (.tail _ (.tail _ (.head _)))))))) rfl rfl rfl rfl rfl rfl (nm_part bb) ?_
    refine DWp.load (.tail _ (.tail _ (.tail _ (.tail _ (.tail _ (.tail _ (.head _))))))) rfl rfl rfl rfl rfl rfl (nm_part e) ?_
    refine DWp.load (.tail _ (.tail _ (.tail _ (.tail _ (.tail _ (.tail _ (.tail _ (.tail _ (.head _))))))))) rfl rfl rfl rfl rfl rfl (nm_part aa) ?_
    refine DWp.load (.head _) rfl rfl rfl rfl rfl rfl (nm_part 121665) ?_
    refine DWp.load (.tail _ (.tail _ (.tail _ (.tail _ (.tail _ (.tail _ (.head _))))))) rfl rfl rfl rfl rfl rfl (nm_part e) ?_
    refine DWp.forkTo [2, 11] (by decide +kernel) (by simp) ?_
    intro xx hxx
    simp only [List.mem_cons, List.mem_nil_iff, or_false] at hxx
    rcases hxx with rfl | rfl
    · refine ⟨_, [13, 13, 13, 13, 13, 13], rfl, rfl, by decide +kernel, rfl, ?_⟩
      refine (Step.call rfl rfl rfl rfl rfl rfl (rtimesC laa lbb ?_))
      rw [← haabb]
      refine prs ?_
      refine DWp.forkTo [7, 11] (by decide +kernel) (by simp) ?_
      intro xx hxx
      simp only [List.mem_cons, List.mem_nil_iff, or_false] at hxx
      rcases hxx with rfl | rfl
      · refine ⟨_, [13, 13, 13, 13, 13], rfl, rfl, by decide +kernel, rfl, ?_⟩
        refine (Step.call rfl rfl rfl rfl rfl rfl (rtimesC (show 121665 < q by decide) le ?_))
        rw [← hte]
        refine prs ?_
        refine DWp.forkTo [8, 11] (by decide +kernel) (by simp) ?_
        intro xx hxx
        simp only [List.mem_cons, List.mem_nil_iff, or_false] at hxx
        rcases hxx with rfl | rfl
        · refine ⟨_, [13, 13, 13, 13], rfl, rfl, by decide +kernel, rfl, ?_⟩
          refine (Step.call rfl rfl rfl rfl rfl rfl (rplusC laa lte ?_))
          rw [← hta]
          refine prs ?_
          refine DWp.forkTo [9, 11] (by decide +kernel) (by simp) ?_
          intro xx hxx
          simp only [List.mem_cons, List.mem_nil_iff, or_false] at hxx
          rcases hxx with rfl | rfl
          · refine ⟨_, [10, 11, 12], rfl, rfl, by decide +kernel, rfl, ?_⟩
            refine (Step.call rfl rfl rfl rfl rfl rfl (rtimesC le lta ?_))
            rw [← htt]
            refine prs ?_
            refine DWp.g rfl rfl rfl rfl (Gives.build rfl (pr_build (a := aabb) (b := tt) rfl rfl)) ?_
            refine DWp.step rfl rfl rfl (Step.alloc rfl rfl rfl ?_); intro L19 hBL19 hLL19
            refine prs ?_
            refine DWp.step rfl rfl rfl (Step.storeAs 0 (prC aabb tt) rfl rfl rfl rfl rfl hBL19 (show some 20 = some (prC aabb tt).length from congrArg some (prC_len aabb tt).symm) (Unfz.zero _) (prC_one aabb tt) (show 0 + (prC aabb tt).length ≤ _ from len_le20 (prC_len aabb tt) rfl) (wr_whole (show (prC aabb tt).length = _ from (prC_len aabb tt).trans (Eq.symm rfl))) rfl ?_)
            refine prs ?_
            refine DWp.nil ?_
            exact ⟨L19, hBL19, .cons rfl (.cons rfl (.cons rfl (.cons rfl (.cons rfl (.cons rfl (.cons rfl (.cons rfl (.cons rfl (.cons rfl (.cons rfl (.cons rfl (.cons rfl (.cons rfl (.cons rfl (.cons rfl (.cons rfl (.nil _))))))))))))))))), (show List.Perm ((L19, cel (prC aabb tt) 145) :: ((L18, cel (zi (dg ((121665 : Nat) : Int))) 100) :: (L17, cel (prC ss ud) 145) :: (L16, cel (zi (dg (d : Int))) 100) :: (L15, cel (zi (dg (s : Int))) 100) :: (L14, cel (zi (dg (cb : Int))) 100) :: (L13, cel (zi (dg (da : Int))) 100) :: (L12, cel (zi (dg (e : Int))) 100) :: (L11, cel (zi (dg (bb : Int))) 100) :: (L10, cel (zi (dg (aa : Int))) 100) :: (L9, cel (zi (dg (b : Int))) 100) :: (L8, cel (zi (dg (a : Int))) 100) :: (L7, cel (List.replicate 20 (.int .i64 0)) 145) :: (L6, cel (List.replicate 20 (.int .i64 0)) 145) :: (L5, cel (prC x3 z3) 145) :: (L4, cel (prC x2 z2) 145) :: (L3, cel (zi (dg (u : Int))) 100) :: S)) ((L19, cel (prC aabb tt) 145) :: ((L18, cel (zi (dg ((121665 : Nat) : Int))) 100) :: (L17, cel (prC ss ud) 145) :: (L16, cel (zi (dg (d : Int))) 100) :: (L15, cel (zi (dg (s : Int))) 100) :: (L14, cel (zi (dg (cb : Int))) 100) :: (L13, cel (zi (dg (da : Int))) 100) :: (L12, cel (zi (dg (e : Int))) 100) :: (L11, cel (zi (dg (bb : Int))) 100) :: (L10, cel (zi (dg (aa : Int))) 100) :: (L9, cel (zi (dg (b : Int))) 100) :: (L8, cel (zi (dg (a : Int))) 100) :: (L7, cel (List.replicate 20 (.int .i64 0)) 145) :: (L6, cel (List.replicate 20 (.int .i64 0)) 145) :: (L5, cel (prC x3 z3) 145) :: (L4, cel (prC x2 z2) 145) :: (L3, cel (zi (dg (u : Int))) 100) :: S)) from permBy [[(L19, cel (prC aabb tt) 145)]] ((L18, cel (zi (dg ((121665 : Nat) : Int))) 100) :: (L17, cel (prC ss ud) 145) :: (L16, cel (zi (dg (d : Int))) 100) :: (L15, cel (zi (dg (s : Int))) 100) :: (L14, cel (zi (dg (cb : Int))) 100) :: (L13, cel (zi (dg (da : Int))) 100) :: (L12, cel (zi (dg (e : Int))) 100) :: (L11, cel (zi (dg (bb : Int))) 100) :: (L10, cel (zi (dg (aa : Int))) 100) :: (L9, cel (zi (dg (b : Int))) 100) :: (L8, cel (zi (dg (a : Int))) 100) :: (L7, cel (List.replicate 20 (.int .i64 0)) 145) :: (L6, cel (List.replicate 20 (.int .i64 0)) 145) :: (L5, cel (prC x3 z3) 145) :: (L4, cel (prC x2 z2) 145) :: (L3, cel (zi (dg (u : Int))) 100) :: S) [0] [0] (by decide))⟩
          · refine ⟨_, [9, 10, 12], rfl, rfl, by decide +kernel, rfl, ?_⟩
            refine (Step.alloc rfl rfl rfl ?_); intro L19 hBL19 hLL19
            refine prs ?_
            refine DWp.step rfl rfl rfl (Step.call rfl rfl rfl rfl rfl rfl (rtimesC le lta ?_))
            rw [← htt]
            refine prs ?_
            refine DWp.g rfl rfl rfl rfl (Gives.build rfl (pr_build (a := aabb) (b := tt) rfl rfl)) ?_
            refine DWp.step rfl rfl rfl (Step.storeAs 0 (prC aabb tt) rfl rfl rfl rfl rfl hBL19 (show some 20 = some (prC aabb tt).length from congrArg some (prC_len aabb tt).symm) (Unfz.zero _) (prC_one aabb tt) (show 0 + (prC aabb tt).length ≤ _ from len_le20 (prC_len aabb tt) rfl) (wr_whole (show (prC aabb tt).length = _ from (prC_len aabb tt).trans (Eq.symm rfl))) rfl ?_)
            refine prs ?_
            refine DWp.nil ?_
            exact ⟨L19, hBL19, .cons rfl (.cons rfl (.cons rfl (.cons rfl (.cons rfl (.cons rfl (.cons rfl (.cons rfl (.cons rfl (.cons rfl (.cons rfl (.cons rfl (.cons rfl (.cons rfl (.cons rfl (.cons rfl (.cons rfl (.nil _))))))))))))))))), (show List.Perm ((L19, cel (prC aabb tt) 145) :: ((L18, cel (zi (dg ((121665 : Nat) : Int))) 100) :: (L17, cel (prC ss ud) 145) :: (L16, cel (zi (dg (d : Int))) 100) :: (L15, cel (zi (dg (s : Int))) 100) :: (L14, cel (zi (dg (cb : Int))) 100) :: (L13, cel (zi (dg (da : Int))) 100) :: (L12, cel (zi (dg (e : Int))) 100) :: (L11, cel (zi (dg (bb : Int))) 100) :: (L10, cel (zi (dg (aa : Int))) 100) :: (L9, cel (zi (dg (b : Int))) 100) :: (L8, cel (zi (dg (a : Int))) 100) :: (L7, cel (List.replicate 20 (.int .i64 0)) 145) :: (L6, cel (List.replicate 20 (.int .i64 0)) 145) :: (L5, cel (prC x3 z3) 145) :: (L4, cel (prC x2 z2) 145) :: (L3, cel (zi (dg (u : Int))) 100) :: S)) ((L19, cel (prC aabb tt) 145) :: ((L18, cel (zi (dg ((121665 : Nat) : Int))) 100) :: (L17, cel (prC ss ud) 145) :: (L16, cel (zi (dg (d : Int))) 100) :: (L15, cel (zi (dg (s : Int))) 100) :: (L14, cel (zi (dg (cb : Int))) 100) :: (L13, cel (zi (dg (da : Int))) 100) :: (L12, cel (zi (dg (e : Int))) 100) :: (L11, cel (zi (dg (bb : Int))) 100) :: (L10, cel (zi (dg (aa : Int))) 100) :: (L9, cel (zi (dg (b : Int))) 100) :: (L8, cel (zi (dg (a : Int))) 100) :: (L7, cel (List.replicate 20 (.int .i64 0)) 145) :: (L6, cel (List.replicate 20 (.int .i64 0)) 145) :: (L5, cel (prC x3 z3) 145) :: (L4, cel (prC x2 z2) 145) :: (L3, cel (zi (dg (u : Int))) 100) :: S)) from permBy [[(L19, cel (prC aabb tt) 145)]] ((L18, cel (zi (dg ((121665 : Nat) : Int))) 100) :: (L17, cel (prC ss ud) 145) :: (L16, cel (zi (dg (d : Int))) 100) :: (L15, cel (zi (dg (s : Int))) 100) :: (L14, cel (zi (dg (cb : Int))) 100) :: (L13, cel (zi (dg (da : Int))) 100) :: (L12, cel (zi (dg (e : Int))) 100) :: (L11, cel (zi (dg (bb : Int))) 100) :: (L10, cel (zi (dg (aa : Int))) 100) :: (L9, cel (zi (dg (b : Int))) 100) :: (L8, cel (zi (dg (a : Int))) 100) :: (L7, cel (List.replicate 20 (.int .i64 0)) 145) :: (L6, cel (List.replicate 20 (.int .i64 0)) 145) :: (L5, cel (prC x3 z3) 145) :: (L4, cel (prC x2 z2) 145) :: (L3, cel (zi (dg (u : Int))) 100) :: S) [0] [0] (by decide))⟩
        · refine ⟨_, [8, 9, 10, 12], rfl, rfl, by decide +kernel, rfl, ?_⟩
          refine (Step.alloc rfl rfl rfl ?_); intro L19 hBL19 hLL19
          refine prs ?_
          refine DWp.step rfl rfl rfl (Step.call rfl rfl rfl rfl rfl rfl (rplusC laa lte ?_))
          rw [← hta]
          refine prs ?_
          refine DWp.step rfl rfl rfl (Step.call rfl rfl rfl rfl rfl rfl (rtimesC le lta ?_))
          rw [← htt]
          refine prs ?_
          refine DWp.g rfl rfl rfl rfl (Gives.build rfl (pr_build (a := aabb) (b := tt) rfl rfl)) ?_
          refine DWp.step rfl rfl rfl (Step.storeAs 0 (prC aabb tt) rfl rfl rfl rfl rfl hBL19 (show some 20 = some (prC aabb tt).length from congrArg some (prC_len aabb tt).symm) (Unfz.zero _) (prC_one aabb tt) (show 0 + (prC aabb tt).length ≤ _ from len_le20 (prC_len aabb tt) rfl) (wr_whole (show (prC aabb tt).length = _ from (prC_len aabb tt).trans (Eq.symm rfl))) rfl ?_)
          refine prs ?_
          refine DWp.nil ?_
          exact ⟨L19, hBL19, .cons rfl (.cons rfl (.cons rfl (.cons rfl (.cons rfl (.cons rfl (.cons rfl (.cons rfl (.cons rfl (.cons rfl (.cons rfl (.cons rfl (.cons rfl (.cons rfl (.cons rfl (.cons rfl (.cons rfl (.nil _))))))))))))))))), (show List.Perm ((L19, cel (prC aabb tt) 145) :: ((L18, cel (zi (dg ((121665 : Nat) : Int))) 100) :: (L17, cel (prC ss ud) 145) :: (L16, cel (zi (dg (d : Int))) 100) :: (L15, cel (zi (dg (s : Int))) 100) :: (L14, cel (zi (dg (cb : Int))) 100) :: (L13, cel (zi (dg (da : Int))) 100) :: (L12, cel (zi (dg (e : Int))) 100) :: (L11, cel (zi (dg (bb : Int))) 100) :: (L10, cel (zi (dg (aa : Int))) 100) :: (L9, cel (zi (dg (b : Int))) 100) :: (L8, cel (zi (dg (a : Int))) 100) :: (L7, cel (List.replicate 20 (.int .i64 0)) 145) :: (L6, cel (List.replicate 20 (.int .i64 0)) 145) :: (L5, cel (prC x3 z3) 145) :: (L4, cel (prC x2 z2) 145) :: (L3, cel (zi (dg (u : Int))) 100) :: S)) ((L19, cel (prC aabb tt) 145) :: ((L18, cel (zi (dg ((121665 : Nat) : Int))) 100) :: (L17, cel (prC ss ud) 145) :: (L16, cel (zi (dg (d : Int))) 100) :: (L15, cel (zi (dg (s : Int))) 100) :: (L14, cel (zi (dg (cb : Int))) 100) :: (L13, cel (zi (dg (da : Int))) 100) :: (L12, cel (zi (dg (e : Int))) 100) :: (L11, cel (zi (dg (bb : Int))) 100) :: (L10, cel (zi (dg (aa : Int))) 100) :: (L9, cel (zi (dg (b : Int))) 100) :: (L8, cel (zi (dg (a : Int))) 100) :: (L7, cel (List.replicate 20 (.int .i64 0)) 145) :: (L6, cel (List.replicate 20 (.int .i64 0)) 145) :: (L5, cel (prC x3 z3) 145) :: (L4, cel (prC x2 z2) 145) :: (L3, cel (zi (dg (u : Int))) 100) :: S)) from permBy [[(L19, cel (prC aabb tt) 145)]] ((L18, cel (zi (dg ((121665 : Nat) : Int))) 100) :: (L17, cel (prC ss ud) 145) :: (L16, cel (zi (dg (d : Int))) 100) :: (L15, cel (zi (dg (s : Int))) 100) :: (L14, cel (zi (dg (cb : Int))) 100) :: (L13, cel (zi (dg (da : Int))) 100) :: (L12, cel (zi (dg (e : Int))) 100) :: (L11, cel (zi (dg (bb : Int))) 100) :: (L10, cel (zi (dg (aa : Int))) 100) :: (L9, cel (zi (dg (b : Int))) 100) :: (L8, cel (zi (dg (a : Int))) 100) :: (L7, cel (List.replicate 20 (.int .i64 0)) 145) :: (L6, cel (List.replicate 20 (.int .i64 0)) 145) :: (L5, cel (prC x3 z3) 145) :: (L4, cel (prC x2 z2) 145) :: (L3, cel (zi (dg (u : Int))) 100) :: S) [0] [0] (by decide))⟩
      · refine ⟨_, [7, 8, 9, 10, 12], rfl, rfl, by decide +kernel, rfl, ?_⟩
        refine (Step.alloc rfl rfl rfl ?_); intro L19 hBL19 hLL19
        refine prs ?_
        refine DWp.step rfl rfl rfl (Step.call rfl rfl rfl rfl rfl rfl (rtimesC (show 121665 < q by decide) le ?_))
        rw [← hte]
        refine prs ?_
        refine DWp.step rfl rfl rfl (Step.call rfl rfl rfl rfl rfl rfl (rplusC laa lte ?_))
        rw [← hta]
        refine prs ?_
        refine DWp.step rfl rfl rfl (Step.call rfl rfl rfl rfl rfl rfl (rtimesC le lta ?_))
        rw [← htt]
        refine prs ?_
        refine DWp.g rfl rfl rfl rfl (Gives.build rfl (pr_build (a := aabb) (b := tt) rfl rfl)) ?_
        refine DWp.step rfl rfl rfl (Step.storeAs 0 (prC aabb tt) rfl rfl rfl rfl rfl hBL19 (show some 20 = some (prC aabb tt).length from congrArg some (prC_len aabb tt).symm) (Unfz.zero _) (prC_one aabb tt) (show 0 + (prC aabb tt).length ≤ _ from len_le20 (prC_len aabb tt) rfl) (wr_whole (show (prC aabb tt).length = _ from (prC_len aabb tt).trans (Eq.symm rfl))) rfl ?_)
        refine prs ?_
        refine DWp.nil ?_
        exact ⟨L19, hBL19, .cons rfl (.cons rfl (.cons rfl (.cons rfl (.cons rfl (.cons rfl (.cons rfl (.cons rfl (.cons rfl (.cons rfl (.cons rfl (.cons rfl (.cons rfl (.cons rfl (.cons rfl (.cons rfl (.cons rfl (.nil _))))))))))))))))), (show List.Perm ((L19, cel (prC aabb tt) 145) :: ((L18, cel (zi (dg ((121665 : Nat) : Int))) 100) :: (L17, cel (prC ss ud) 145) :: (L16, cel (zi (dg (d : Int))) 100) :: (L15, cel (zi (dg (s : Int))) 100) :: (L14, cel (zi (dg (cb : Int))) 100) :: (L13, cel (zi (dg (da : Int))) 100) :: (L12, cel (zi (dg (e : Int))) 100) :: (L11, cel (zi (dg (bb : Int))) 100) :: (L10, cel (zi (dg (aa : Int))) 100) :: (L9, cel (zi (dg (b : Int))) 100) :: (L8, cel (zi (dg (a : Int))) 100) :: (L7, cel (List.replicate 20 (.int .i64 0)) 145) :: (L6, cel (List.replicate 20 (.int .i64 0)) 145) :: (L5, cel (prC x3 z3) 145) :: (L4, cel (prC x2 z2) 145) :: (L3, cel (zi (dg (u : Int))) 100) :: S)) ((L19, cel (prC aabb tt) 145) :: ((L18, cel (zi (dg ((121665 : Nat) : Int))) 100) :: (L17, cel (prC ss ud) 145) :: (L16, cel (zi (dg (d : Int))) 100) :: (L15, cel (zi (dg (s : Int))) 100) :: (L14, cel (zi (dg (cb : Int))) 100) :: (L13, cel (zi (dg (da : Int))) 100) :: (L12, cel (zi (dg (e : Int))) 100) :: (L11, cel (zi (dg (bb : Int))) 100) :: (L10, cel (zi (dg (aa : Int))) 100) :: (L9, cel (zi (dg (b : Int))) 100) :: (L8, cel (zi (dg (a : Int))) 100) :: (L7, cel (List.replicate 20 (.int .i64 0)) 145) :: (L6, cel (List.replicate 20 (.int .i64 0)) 145) :: (L5, cel (prC x3 z3) 145) :: (L4, cel (prC x2 z2) 145) :: (L3, cel (zi (dg (u : Int))) 100) :: S)) from permBy [[(L19, cel (prC aabb tt) 145)]] ((L18, cel (zi (dg ((121665 : Nat) : Int))) 100) :: (L17, cel (prC ss ud) 145) :: (L16, cel (zi (dg (d : Int))) 100) :: (L15, cel (zi (dg (s : Int))) 100) :: (L14, cel (zi (dg (cb : Int))) 100) :: (L13, cel (zi (dg (da : Int))) 100) :: (L12, cel (zi (dg (e : Int))) 100) :: (L11, cel (zi (dg (bb : Int))) 100) :: (L10, cel (zi (dg (aa : Int))) 100) :: (L9, cel (zi (dg (b : Int))) 100) :: (L8, cel (zi (dg (a : Int))) 100) :: (L7, cel (List.replicate 20 (.int .i64 0)) 145) :: (L6, cel (List.replicate 20 (.int .i64 0)) 145) :: (L5, cel (prC x3 z3) 145) :: (L4, cel (prC x2 z2) 145) :: (L3, cel (zi (dg (u : Int))) 100) :: S) [0] [0] (by decide))⟩
    · refine ⟨_, [2, 7, 8, 9, 10, 12], rfl, rfl, by decide +kernel, rfl, ?_⟩
      refine (Step.alloc rfl rfl rfl ?_); intro L19 hBL19 hLL19
      refine prs ?_
      refine DWp.step rfl rfl rfl (Step.call rfl rfl rfl rfl rfl rfl (rtimesC laa lbb ?_))
      rw [← haabb]
      refine prs ?_
      refine DWp.step rfl rfl rfl (Step.call rfl rfl rfl rfl rfl rfl (rtimesC (show 121665 < q by decide) le ?_))
      rw [← hte]
      refine prs ?_
      refine DWp.step rfl rfl rfl (Step.call rfl rfl rfl rfl rfl rfl (rplusC laa lte ?_))
      rw [← hta]
      refine prs ?_
      refine DWp.step rfl rfl rfl (Step.call rfl rfl rfl rfl rfl rfl (rtimesC le lta ?_))
      rw [← htt]
      refine prs ?_
      refine DWp.g rfl rfl rfl rfl (Gives.build rfl (pr_build (a := aabb) (b := tt) rfl rfl)) ?_
      refine DWp.step rfl rfl rfl (Step.storeAs 0 (prC aabb tt) rfl rfl rfl rfl rfl hBL19 (show some 20 = some (prC aabb tt).length from congrArg some (prC_len aabb tt).symm) (Unfz.zero _) (prC_one aabb tt) (show 0 + (prC aabb tt).length ≤ _ from len_le20 (prC_len aabb tt) rfl) (wr_whole (show (prC aabb tt).length = _ from (prC_len aabb tt).trans (Eq.symm rfl))) rfl ?_)
      refine prs ?_
      refine DWp.nil ?_
      exact ⟨L19, hBL19, .cons rfl (.cons rfl (.cons rfl (.cons rfl (.cons rfl (.cons rfl (.cons rfl (.cons rfl (.cons rfl (.cons rfl (.cons rfl (.cons rfl (.cons rfl (.cons rfl (.cons rfl (.cons rfl (.cons rfl (.nil _))))))))))))))))), (show List.Perm ((L19, cel (prC aabb tt) 145) :: ((L18, cel (zi (dg ((121665 : Nat) : Int))) 100) :: (L17, cel (prC ss ud) 145) :: (L16, cel (zi (dg (d : Int))) 100) :: (L15, cel (zi (dg (s : Int))) 100) :: (L14, cel (zi (dg (cb : Int))) 100) :: (L13, cel (zi (dg (da : Int))) 100) :: (L12, cel (zi (dg (e : Int))) 100) :: (L11, cel (zi (dg (bb : Int))) 100) :: (L10, cel (zi (dg (aa : Int))) 100) :: (L9, cel (zi (dg (b : Int))) 100) :: (L8, cel (zi (dg (a : Int))) 100) :: (L7, cel (List.replicate 20 (.int .i64 0)) 145) :: (L6, cel (List.replicate 20 (.int .i64 0)) 145) :: (L5, cel (prC x3 z3) 145) :: (L4, cel (prC x2 z2) 145) :: (L3, cel (zi (dg (u : Int))) 100) :: S)) ((L19, cel (prC aabb tt) 145) :: ((L18, cel (zi (dg ((121665 : Nat) : Int))) 100) :: (L17, cel (prC ss ud) 145) :: (L16, cel (zi (dg (d : Int))) 100) :: (L15, cel (zi (dg (s : Int))) 100) :: (L14, cel (zi (dg (cb : Int))) 100) :: (L13, cel (zi (dg (da : Int))) 100) :: (L12, cel (zi (dg (e : Int))) 100) :: (L11, cel (zi (dg (bb : Int))) 100) :: (L10, cel (zi (dg (aa : Int))) 100) :: (L9, cel (zi (dg (b : Int))) 100) :: (L8, cel (zi (dg (a : Int))) 100) :: (L7, cel (List.replicate 20 (.int .i64 0)) 145) :: (L6, cel (List.replicate 20 (.int .i64 0)) 145) :: (L5, cel (prC x3 z3) 145) :: (L4, cel (prC x2 z2) 145) :: (L3, cel (zi (dg (u : Int))) 100) :: S)) from permBy [[(L19, cel (prC aabb tt) 145)]] ((L18, cel (zi (dg ((121665 : Nat) : Int))) 100) :: (L17, cel (prC ss ud) 145) :: (L16, cel (zi (dg (d : Int))) 100) :: (L15, cel (zi (dg (s : Int))) 100) :: (L14, cel (zi (dg (cb : Int))) 100) :: (L13, cel (zi (dg (da : Int))) 100) :: (L12, cel (zi (dg (e : Int))) 100) :: (L11, cel (zi (dg (bb : Int))) 100) :: (L10, cel (zi (dg (aa : Int))) 100) :: (L9, cel (zi (dg (b : Int))) 100) :: (L8, cel (zi (dg (a : Int))) 100) :: (L7, cel (List.replicate 20 (.int .i64 0)) 145) :: (L6, cel (List.replicate 20 (.int .i64 0)) 145) :: (L5, cel (prC x3 z3) 145) :: (L4, cel (prC x2 z2) 145) :: (L3, cel (zi (dg (u : Int))) 100) :: S) [0] [0] (by decide))⟩
  intro L19 hBL19
  refine Wp.seq (Wp.regionDraw [0, 1, 2, 3] [2, 3] rfl (by decide +kernel) ?_)
  refine DWp.load (.head _) rfl rfl rfl rfl rfl rfl (pr_part aabb tt) ?_
  refine DWp.load (.tail _ (.tail _ (.head _))) rfl rfl rfl rfl rfl rfl (pr_part ss ud) ?_
  refine DWp.step rfl rfl rfl (Step.storeAs 13 (prC aabb tt) rfl rfl rfl rfl rfl hBL6 (show some 20 = some (prC aabb tt).length from congrArg some (prC_len aabb tt).symm) (Unfz.zero _) (prC_one aabb tt) (show 0 + (prC aabb tt).length ≤ _ from len_le20 (prC_len aabb tt) rfl) (wr_whole (show (prC aabb tt).length = _ from (prC_len aabb tt).trans (Eq.symm rfl))) rfl ?_)
  refine prs ?_
  refine DWp.stepAll rfl rfl rfl rfl (Step.storeAs 12 (prC ss ud) rfl rfl rfl rfl rfl hBL7 (show some 20 = some (prC ss ud).length from congrArg some (prC_len ss ud).symm) (Unfz.zero _) (prC_one ss ud) (show 0 + (prC ss ud).length ≤ _ from len_le20 (prC_len ss ud) rfl) (wr_whole (show (prC ss ud).length = _ from (prC_len ss ud).trans (Eq.symm rfl))) rfl ?_)
  have hp1 := pr_part aabb tt
  have hp2 := pr_part ss ud
  refine DWp.nil ?_
  refine Wp.ret ⟨trivial, _, ⟨_, _, _, _, rfl, rfl, ⟨_, _, _, mems, (by first | assumption | rfl)⟩, ⟨_, _, _, _, rfl, rfl, ⟨_, _, _, mems, (by first | assumption | rfl)⟩, rfl⟩⟩, ?_⟩
  have hst : lstep u ⟨x2, z2, x3, z3⟩ = ⟨aabb, tt, ss, ud⟩ := by simp only [lstep, ← ha, ← hb, ← haa, ← hbb, ← he, ← hd0, ← hda, ← hc0, ← hcb, ← hs, ← hd, ← hss, ← hdd, ← hud, ← haabb, ← hte, ← hta, ← htt]
  rw [hst] at H
  exact ⟨S, subl, H⟩
end
end Go.Proofs.D

namespace Go.Proofs.D
open Go.Lg Go.Cv
set_option maxRecDepth 100000
theorem strs_at {l : List (List UInt8)} {i : Nat} (h : i < l.length) : (strs l)[i]? = some (.string (str l[i])) := by
  unfold strs
  rw [List.getElem?_map, List.getElem?_eq_getElem h]
  rfl
section
variable {B : Nat} {S R : Ents} {Q : Value → Ents → Prop}
theorem timesCC {k u : List UInt8} (H : Q (.tuple #[.string (str (timesR k u).1), .int .i64 ((timesR k u).2 : Nat)]) S) : CallWp Tryz.prog B 47 #[.string (str k), .string (str u)] Q S := by
  unfold timesR at H
  refine CallWp.enter (args := [_, _]) Tryz.func47 rfl Tryz.ntmps47 rfl ?_
  refine Wp.seq (Wp.region ?_)
  refine OWp.evs 2 rfl ?_
  refine OWp.nil ?_
  refine Wp.seq ?_
  refine Wp.seq (Wp.region ?_)
  refine OWp.evs 4 rfl ?_
  refine OWp.part 9 rfl (fun h1 => ?_) (fun h1 => ?_)
  · have h1 := ndT h1
    rw [if_neg (fun h => h1 (by rw [h.1]; rfl))] at H
    refine OWp.evs 4 rfl ?_
    refine OWp.nil ?_
    refine Wp.cond rfl (fun _ => ?_) (fun c => nomatch c)
    refine Wp.seq (Wp.region ?_)
    refine OWp.evs 2 rfl ?_
    refine OWp.nil ?_
    refine Wp.ret ⟨trivial, _, ⟨_, _, rfl, rfl, _, _, rfl, rfl, rfl⟩, ?_⟩
    exact H
  have h1 := ndF h1
  refine OWp.evs 4 rfl ?_
  refine OWp.nil ?_
  refine Wp.cond rfl (fun h2 => ?_) (fun h2 => ?_)
  · have h2 := ndT h2
    rw [if_neg (fun h => h2 (by rw [h.2]; rfl))] at H
    refine Wp.seq (Wp.region ?_)
    refine OWp.evs 2 rfl ?_
    refine OWp.nil ?_
    refine Wp.ret ⟨trivial, _, ⟨_, _, rfl, rfl, _, _, rfl, rfl, rfl⟩, ?_⟩
    exact H
  have h2 := ndF h2
  have hk : k.length = 32 := by omega
  have hu : u.length = 32 := by omega
  rw [if_pos ⟨hk, hu⟩] at H
  refine Wp.skip ?_
  refine Wp.seq (Wp.region ?_)
  refine OWp.evs 2 rfl ?_
  refine OWp.step rfl (Step.call rfl rfl rfl rfl rfl rfl ((ctimesC hk hu ?_)))
  refine OWp.evs 2 rfl ?_
  refine OWp.nil ?_
  refine Wp.ret ⟨trivial, _, ⟨_, _, rfl, rfl, _, _, rfl, rfl, rfl⟩, ?_⟩
  exact H
theorem publicC {k : List UInt8} (H : Q (.tuple #[.string (str (publicR k).1), .int .i64 ((publicR k).2 : Nat)]) S) : CallWp Tryz.prog B 30 #[.string (str k)] Q S := by
  refine CallWp.enter (args := [_]) Tryz.func30 rfl Tryz.ntmps30 rfl ?_
  refine Wp.seq (Wp.region ?_)
  refine OWp.evs 2 rfl ?_
  refine OWp.nil ?_
  refine Wp.seq (Wp.region ?_)
  refine OWp.evs 1 rfl ?_
  refine OWp.step rfl (Step.call rfl rfl rfl rfl rfl rfl ((textNC (n := 9) (by decide) ?_)))
  refine OWp.step rfl (Step.call rfl rfl rfl rfl rfl rfl ((timesCC (u := base9) ?_)))
  refine OWp.evs 4 rfl ?_
  refine OWp.nil ?_
  refine Wp.ret ⟨trivial, _, ⟨_, _, rfl, rfl, _, _, rfl, rfl, rfl⟩, ?_⟩
  exact H
theorem sharedC {k u : List UInt8} (H : Q (.tuple #[.string (str (sharedR k u).1), .int .i64 ((sharedR k u).2 : Nat)]) S) : CallWp Tryz.prog B 43 #[.string (str k), .string (str u)] Q S := by
  unfold sharedR at H
  refine CallWp.enter (args := [_, _]) Tryz.func43 rfl Tryz.ntmps43 rfl ?_
  refine Wp.seq (Wp.region ?_)
  refine OWp.evs 2 rfl ?_
  refine OWp.nil ?_
  refine Wp.seq (Wp.region ?_)
  refine OWp.evs 2 rfl ?_
  refine OWp.step rfl (Step.call rfl rfl rfl rfl rfl rfl ((timesCC ?_)))
  refine OWp.evs 5 rfl ?_
  refine OWp.nil ?_
  refine Wp.seq ?_
  refine Wp.block ?_
  refine Wp.seq (Wp.region ?_)
  refine OWp.evs 3 rfl ?_
  refine OWp.nil ?_
  refine Wp.cond rfl (fun h1 => ?_) (fun h1 => ?_)
  · have h1 := ndT h1
    rw [if_pos (by omega)] at H
    refine Wp.seq (Wp.region ?_)
    refine OWp.evs 3 rfl ?_
    refine OWp.nil ?_
    refine Wp.ret ⟨trivial, _, ⟨_, _, rfl, rfl, _, _, rfl, rfl, rfl⟩, ?_⟩
    exact H
  have h1 := ndF h1
  rw [if_neg (by omega)] at H
  refine Wp.seq (Wp.region ?_)
  refine OWp.evs 1 rfl ?_
  refine OWp.step rfl (Step.call rfl rfl rfl rfl rfl rfl ((textNC (n := 0) (by decide) ?_)))
  refine OWp.evs 2 rfl ?_
  refine OWp.nil ?_
  refine Wp.cond rfl (fun h2 => ?_) (fun h2 => ?_)
  · have h2 := of_decide_eq_true h2
    rw [if_pos h2] at H
    refine Wp.seq (Wp.region ?_)
    refine OWp.evs 2 rfl ?_
    refine OWp.nil ?_
    refine Wp.ret ⟨trivial, _, ⟨_, _, rfl, rfl, _, _, rfl, rfl, rfl⟩, ?_⟩
    exact H
  have h2 := of_decide_eq_false h2
  rw [if_neg h2] at H
  have e : (timesR k u).2 = 0 := by omega
  rw [e] at H
  refine Wp.skip ?_
  refine Wp.seq (Wp.region ?_)
  refine OWp.evs 3 rfl ?_
  refine OWp.nil ?_
  refine Wp.ret ⟨trivial, _, ⟨_, _, rfl, rfl, _, _, rfl, rfl, rfl⟩, ?_⟩
  exact H
theorem chainGo_take {u : List UInt8} : ∀ (ks : List (List UInt8)) {i : Nat} (hi : i < ks.length) {v : List UInt8}, chainGo u ks = chainGo v (ks.drop i) → chainGo u ks = if (sharedR ks[i] v).2 ≠ 0 then ([], (sharedR ks[i] v).2) else chainGo (sharedR ks[i] v).1 (ks.drop (i + 1)) := by
  intro ks i hi v h
  rw [h, List.drop_eq_getElem_cons hi]
  rfl
set_option maxHeartbeats 2000000 in
theorem chainC {u : List UInt8} {ks : List (List UInt8)} {v : Value} (hr : Reads S 1 v ks.length (strs ks)) (hl : ks.length ≤ 1099511627776) (H : Q (.tuple #[.string (str (chainR u ks).1), .int .i64 ((chainR u ks).2 : Nat)]) S) : CallWp Tryz.prog B 66 #[.string (str u), v] Q S := by
  obtain ⟨va, vc, rfl⟩ := hr.form
  unfold chainR at H
  have hlc : (u :: ks).length = ks.length + 1 := rfl
  refine CallWp.dropRet ?_
  refine CallWp.enter (args := [_, _]) Tryz.func66 rfl Tryz.ntmps66 rfl ?_
  refine Wp.seq (Wp.region ?_)
  refine OWp.evs 2 rfl ?_
  refine OWp.nil ?_
  refine Wp.seq ?_
  refine Wp.seq (Wp.region ?_)
  refine OWp.evs 1 rfl ?_
  refine OWp.step rfl (Step.buildSlice rfl rfl rfl ?_); intro L hBL hLL
  refine OWp.evs 1 rfl ?_
  refine OWp.step rfl (Step.appendAt (es := [(L, cel [.string (str u)] 9)]) [] rfl rfl rfl rfl rfl rfl (by decide) rfl rfl (Own.row (k := 1) hBL rfl (by decide)) (hr.mono fun x hx => List.mem_append_right _ (.tail _ hx)) (strs_one ks) (by show (1 + _) * 16 ≤ _; omega) (by unfold maxLen; omega) ?_)
  intro v1 e1 ho1 _
  have hr1 : Reads e1 1 v1 (u :: ks).length (strs (u :: ks)) := by rw [List.length_cons, Nat.add_comm]; exact ho1.reads
  obtain ⟨wa, wc, rfl⟩ := hr1.form
  refine OWp.evs 2 rfl ?_
  refine OWp.nil ?_
  refine Wp.block ?_
  refine Wp.loopS (α := Nat) (fun i => (u :: ks).length - i) (fun i => [(0, .string (str u)), (1, .slice va ks.length vc), (15, .slice wa (u :: ks).length wc), (16, .int .i64 ((u :: ks).length : Int)), (17, .int .i64 (i : Int))]) (fun _ => e1 ++ S) (fun i => i ≤ (u :: ks).length ∧ ∀ s ∈ (u :: ks).take i, s.length = 32) 0 ?_ (.refl _) ⟨Nat.zero_le _, by simp⟩ ?_
  · exact .cons rfl (.cons rfl (.cons rfl (.cons rfl (.cons rfl (.nil _)))))
  rintro i ⟨hi, hall⟩
  refine Wp.seq (Wp.region ?_)
  refine OWp.evs 1 rfl ?_
  refine OWp.nil ?_
  refine Wp.seq ?_
  refine Wp.cond rfl (fun h1 => ?_) (fun h1 => ?_)
  · have h1 := of_decide_eq_true h1
    have hi1 : i < (u :: ks).length := by omega
    obtain ⟨b2, o2, c2, l2, t2, f2, hv2, hm2, _, hg2⟩ := hr1.get1 (by omega)
    cases hv2
    have hgi : l2[o2 + i * 1]? = some (.string (str (u :: ks)[i])) := by rw [hg2 i hi1]; exact strs_at hi1
    refine Wp.skip ?_
    refine Wp.seq ?_
    refine Wp.block ?_
    refine Wp.seq (Wp.region ?_)
    refine OWp.g rfl rfl (Gives.indexAddrSlice (i) rfl rfl rfl rfl rfl rfl (by omega)) ?_
    refine OWp.load (List.mem_append_left _ hm2) rfl rfl rfl rfl hgi ?_
    refine OWp.evs 1 rfl ?_
    refine OWp.nil ?_
    refine Wp.seq (Wp.region ?_)
    refine OWp.evs 3 rfl ?_
    refine OWp.nil ?_
    refine Wp.cond rfl (fun h2 => ?_) (fun h2 => ?_)
    · have h2 := ndT h2
      have hno : ¬ ∀ s ∈ u :: ks, s.length = 32 := fun h => h2 (by have := h _ (List.getElem_mem hi1); omega)
      rw [if_pos hno] at H
      refine Wp.seq (Wp.region ?_)
      refine OWp.evs 2 rfl ?_
      refine OWp.nil ?_
      refine Wp.ret ⟨trivial, _, ⟨_, _, rfl, rfl, _, _, rfl, rfl, rfl⟩, ?_⟩
      exact ⟨S, List.sublist_append_right _ _, H⟩
    have h2 := ndF h2
    refine Wp.skip ?_
    refine Wp.region ?_
    refine OWp.evs 2 rfl ?_
    refine OWp.nil ?_
    refine ⟨i + 1, by omega, ⟨by omega, ?_⟩, .cons rfl (.cons rfl (.cons rfl (.cons rfl (.cons' rfl (int_eq (by rw [i64_id] <;> omega)) (.nil _))))), .refl _⟩
    intro s hs
    rw [List.take_succ_eq_append_getElem hi1] at hs
    rcases List.mem_append.1 hs with hs | hs
    · exact hall s hs
    · rw [List.mem_singleton.1 hs]; omega
  have h1 := of_decide_eq_false h1
  obtain rfl : i = (u :: ks).length := by omega
  rw [List.take_length] at hall
  rw [if_neg (by simpa using hall)] at H
  refine Wp.exit ?_
  refine Wp.seq ?_
  refine Wp.seq (Wp.region ?_)
  refine OWp.evs 3 rfl ?_
  refine OWp.nil ?_
  refine Wp.cond rfl (fun h3 => ?_) (fun h3 => ?_)
  · have h3 := of_decide_eq_true h3
    rw [if_pos (by omega)] at H
    refine Wp.seq (Wp.region ?_)
    refine OWp.evs 2 rfl ?_
    refine OWp.nil ?_
    refine Wp.ret ⟨trivial, _, ⟨_, _, rfl, rfl, _, _, rfl, rfl, rfl⟩, ?_⟩
    exact ⟨S, List.sublist_append_right _ _, H⟩
  have h3 := of_decide_eq_false h3
  rw [if_neg (by omega)] at H
  refine Wp.skip ?_
  refine Wp.seq ?_
  refine Wp.seq (Wp.region ?_)
  refine OWp.evs 3 rfl ?_
  refine OWp.nil ?_
  refine Wp.block ?_
  refine Wp.loopS (α := Nat × List UInt8) (fun z => ks.length - z.1) (fun z => [(0, .string (str z.2)), (28, .slice va ks.length vc), (29, .int .i64 (ks.length : Int)), (30, .int .i64 (z.1 : Int))]) (fun _ => e1 ++ S) (fun z => z.1 ≤ ks.length ∧ chainGo u ks = chainGo z.2 (ks.drop z.1)) (0, u) ?_ (.refl _) ⟨Nat.zero_le _, rfl⟩ ?_
  · exact .cons rfl (.cons rfl (.cons rfl (.cons rfl (.nil _))))
  rintro ⟨i, x⟩ ⟨hi, hc⟩
  simp only at hi hc ⊢
  refine Wp.seq (Wp.region ?_)
  refine OWp.evs 1 rfl ?_
  refine OWp.nil ?_
  refine Wp.seq ?_
  refine Wp.cond rfl (fun h4 => ?_) (fun h4 => ?_)
  · have h4 := of_decide_eq_true h4
    have hi1 : i < ks.length := by omega
    have hcc := chainGo_take ks hi1 hc
    obtain ⟨b2, o2, c2, l2, t2, f2, hv2, hm2, _, hg2⟩ := hr.get1 (by omega)
    cases hv2
    have hgi : l2[o2 + i * 1]? = some (.string (str ks[i])) := by rw [hg2 i hi1]; exact strs_at hi1
    refine Wp.skip ?_
    refine Wp.seq ?_
    refine Wp.block ?_
    refine Wp.seq (Wp.region ?_)
    refine OWp.g rfl rfl (Gives.indexAddrSlice (i) rfl rfl rfl rfl rfl rfl (by omega)) ?_
    refine OWp.load (List.mem_append_right _ hm2) rfl rfl rfl rfl hgi ?_
    refine OWp.evs 1 rfl ?_
    refine OWp.nil ?_
    refine Wp.seq (Wp.region ?_)
    refine OWp.evs 2 rfl ?_
    refine OWp.step rfl (Step.call rfl rfl rfl rfl rfl rfl ((sharedC ?_)))
    refine OWp.evs 5 rfl ?_
    refine OWp.nil ?_
    refine Wp.seq ?_
    refine Wp.seq (Wp.region ?_)
    refine OWp.evs 2 rfl ?_
    refine OWp.nil ?_
    refine Wp.cond rfl (fun h5 => ?_) (fun h5 => ?_)
    · have h5 := ndT h5
      rw [if_pos (by omega)] at hcc
      rw [hcc] at H
      refine Wp.seq (Wp.region ?_)
      refine OWp.evs 3 rfl ?_
      refine OWp.nil ?_
      refine Wp.ret ⟨trivial, _, ⟨_, _, rfl, rfl, _, _, rfl, rfl, rfl⟩, ?_⟩
      exact ⟨S, List.sublist_append_right _ _, H⟩
    have h5 := ndF h5
    rw [if_neg (by omega)] at hcc
    refine Wp.skip ?_
    refine Wp.region ?_
    refine OWp.evs 2 rfl ?_
    refine OWp.nil ?_
    refine Wp.region ?_
    refine OWp.evs 2 rfl ?_
    refine OWp.nil ?_
    exact ⟨(i + 1, (sharedR ks[i] x).1), by simp only; omega, ⟨by simp only; omega, hcc⟩, .cons rfl (.cons rfl (.cons rfl (.cons' rfl (int_eq (by simp only; rw [i64_id] <;> omega)) (.nil _)))), .refl _⟩
  have h4 := of_decide_eq_false h4
  obtain rfl : i = ks.length := by omega
  rw [List.drop_length] at hc
  rw [hc] at H
  refine Wp.exit ?_
  refine Wp.seq (Wp.region ?_)
  refine OWp.evs 3 rfl ?_
  refine OWp.nil ?_
  refine Wp.ret ⟨trivial, _, ⟨_, _, rfl, rfl, _, _, rfl, rfl, rfl⟩, ?_⟩
  exact ⟨S, List.sublist_append_right _ _, H⟩
end
end Go.Proofs.D
