/- What functions of the given program do, one after the other, told by that layer. -/
import Derived.Test.YtkbagleekpgdeaaGreatDoorZM8x951f
import Derived.Test.YtkbagleekpgdeaaGreatDoorZM7x4da7
namespace Go.Proofs.D
open Go.Lg Go.Cv Go.Nm
open Go.Proofs.C (zi zi_length zi_one zi_append)
set_option maxRecDepth 100000
theorem lstep_lt (u : Nat) (s : Four) : (lstep u s).x2 < q ∧ (lstep u s).z2 < q ∧ (lstep u s).x3 < q ∧ (lstep u s).z3 < q := ⟨mulq_lt _ _, mulq_lt _ _, mulq_lt _ _, mulq_lt _ _⟩
theorem lbit_lt (u : Nat) (s : Four) (b : Bool) : (lbit u s b).x2 < q ∧ (lbit u s b).z2 < q ∧ (lbit u s b).x3 < q ∧ (lbit u s b).z3 < q := by
  unfold lbit
  cases b with
  | false => exact lstep_lt u s
  | true =>
    obtain ⟨h1, h2, h3, h4⟩ := lstep_lt u s.swap
    exact ⟨h3, h4, h1, h2⟩
theorem one_lt : 1 < q := by decide +kernel
theorem lad_lt (k : Nat) {u : Nat} (hu : u < q) : ∀ i : Nat, (lad k u i).x2 < q ∧ (lad k u i).z2 < q ∧ (lad k u i).x3 < q ∧ (lad k u i).z3 < q
  | 0 => ⟨one_lt, q_pos, hu, one_lt⟩
  | _ + 1 => lbit_lt u _ _
theorem bit_u8 {s : List UInt8} {t : Nat} {b : Bool} (h : (leNat s).testBit t = b) : bits .and .u8 (((s.getD (t / 8) 0).toNat : Int).fdiv (2 ^ (min (t % 8) IntKind.u8.bits))) 1 = if b then 1 else 0 := by
  rw [leNat_testBit] at h
  rw [and1 _ _ (UInt8.toNat_lt (s.getD (t / 8) 0)) (Nat.mod_lt t (show 0 < 8 by decide)), h]
def pairRow (L x z : Nat) : Nat × Obj := (L, cel (prC x z) 145)
attribute [local irreducible] dg le32
section
variable {B : Nat} {S R : Ents} {Q : Value → Ents → Prop}
set_option maxHeartbeats 4000000 in
theorem rladderC {s : List UInt8} {u : Nat} (hs : s.length = 32) (hu : u < q) (H : Q (nmV (ladx (leNat s) u)) S) : CallWp Tryz.prog B 80 #[.string (str s), nmV u] Q S := by
  obtain ⟨K, hK⟩ : ∃ K, K = leNat s := ⟨_, rfl⟩
  have h0 : nmV 0 = .agg #[.int .i64 0, .int .i64 0, .int .i64 0, .int .i64 0, .int .i64 0, .int .i64 0, .int .i64 0, .int .i64 0, .int .i64 0, .int .i64 0] := nmV_small (n := 0) (by decide)
  rw [← hK] at H
  refine CallWp.dropRet ?_
  refine CallWp.enter (args := [_, _]) Tryz.func80 rfl Tryz.ntmps80 rfl ?_
  refine Wp.seq (Wp.region ?_)
  refine OWp.step rfl (Step.box rfl rfl rfl ?_); intro L3 hBL3 hLL3
  refine OWp.step rfl (Step.alloc rfl rfl rfl ?_); intro L4 hBL4 hLL4
  refine OWp.nil ?_
  refine Wp.seq (Wp.region ?_)
  refine OWp.step rfl (Step.call rfl rfl rfl rfl rfl rfl ((roneC ?_)))
  refine OWp.g rfl rfl (Gives.build rfl rfl) ?_
  refine OWp.g rfl rfl (Gives.build rfl (pr_build (a := 1) (b := 0) rfl (congrArg some h0.symm))) ?_
  refine OWp.step rfl (Step.alloc rfl rfl rfl ?_); intro L5 hBL5 hLL5
  refine OWp.step rfl (Step.storeAs 0 (prC 1 0) rfl rfl rfl rfl rfl hBL5 (show some 20 = some (prC 1 0).length from congrArg some (prC_len 1 0).symm) (Unfz.zero _) (prC_one 1 0) (show 0 + (prC 1 0).length ≤ _ from len_le20 (prC_len 1 0) rfl) (wr_whole (show (prC 1 0).length = _ from (prC_len 1 0).trans (Eq.symm rfl))) rfl ?_)
  refine OWp.nil ?_
  refine Wp.seqS (α := Nat) (fun L6 => [(0, .string (str s)), (3, pn L3), (4, pn L4), (5, pn L5), (6, pn L6)]) (fun L6 => (L6, cel (prC u 1) 145) :: (L5, cel (prC 1 0) 145) :: (L4, cel (List.replicate 10 (.int .i64 0)) 100) :: (L3, cel (zi (dg (u : Int))) 100) :: S) (fun L6 => B ≤ L6) ?_ ?_
  · skip
    refine Wp.regionDraw [0, 5, 5, 5, 5] [1, 3, 4] rfl (by decide +kernel) ?_
    refine DWp.load (.tail _ (.tail _ (.head _))) rfl rfl rfl rfl rfl rfl (nm_part u) ?_
    refine DWp.forkTo [1, 3] (by decide +kernel) (by simp) ?_
    intro xx hxx
    simp only [List.mem_cons, List.mem_nil_iff, or_false] at hxx
    rcases hxx with rfl | rfl
    · refine ⟨_, [2, 3, 4], rfl, rfl, by decide +kernel, rfl, ?_⟩
      refine (Step.call rfl rfl rfl rfl rfl rfl (roneC ?_))
      refine prs ?_
      refine DWp.g rfl rfl rfl rfl (Gives.build rfl (pr_build (a := u) (b := 1) rfl rfl)) ?_
      refine DWp.step rfl rfl rfl (Step.alloc rfl rfl rfl ?_); intro L6 hBL6 hLL6
      refine prs ?_
      refine DWp.step rfl rfl rfl (Step.storeAs 0 (prC u 1) rfl rfl rfl rfl rfl hBL6 (show some 20 = some (prC u 1).length from congrArg some (prC_len u 1).symm) (Unfz.zero _) (prC_one u 1) (show 0 + (prC u 1).length ≤ _ from len_le20 (prC_len u 1) rfl) (wr_whole (show (prC u 1).length = _ from (prC_len u 1).trans (Eq.symm rfl))) rfl ?_)
      refine prs ?_
      refine DWp.nil ?_
      exact ⟨L6, hBL6, .cons rfl (.cons rfl (.cons rfl (.cons rfl (.cons rfl (.nil _))))), (show List.Perm ((L6, cel (prC u 1) 145) :: ((L5, cel (prC 1 0) 145) :: (L4, cel (List.replicate 10 (.int .i64 0)) 100) :: (L3, cel (zi (dg (u : Int))) 100) :: S)) ((L6, cel (prC u 1) 145) :: ((L5, cel (prC 1 0) 145) :: (L4, cel (List.replicate 10 (.int .i64 0)) 100) :: (L3, cel (zi (dg (u : Int))) 100) :: S)) from permBy [[(L6, cel (prC u 1) 145)]] ((L5, cel (prC 1 0) 145) :: (L4, cel (List.replicate 10 (.int .i64 0)) 100) :: (L3, cel (zi (dg (u : Int))) 100) :: S) [0] [0] (by decide))⟩
    · refine ⟨_, [1, 2, 4], rfl, rfl, by decide +kernel, rfl, ?_⟩
      refine (Step.alloc rfl rfl rfl ?_); intro L6 hBL6 hLL6
      refine prs ?_
      refine DWp.step rfl rfl rfl (Step.call rfl rfl rfl rfl rfl rfl (roneC ?_))
      refine prs ?_
      refine DWp.g rfl rfl rfl rfl (Gives.build rfl (pr_build (a := u) (b := 1) rfl rfl)) ?_
      refine DWp.step rfl rfl rfl (Step.storeAs 0 (prC u 1) rfl rfl rfl rfl rfl hBL6 (show some 20 = some (prC u 1).length from congrArg some (prC_len u 1).symm) (Unfz.zero _) (prC_one u 1) (show 0 + (prC u 1).length ≤ _ from len_le20 (prC_len u 1) rfl) (wr_whole (show (prC u 1).length = _ from (prC_len u 1).trans (Eq.symm rfl))) rfl ?_)
      refine prs ?_
      refine DWp.nil ?_
      exact ⟨L6, hBL6, .cons rfl (.cons rfl (.cons rfl (.cons rfl (.cons rfl (.nil _))))), (show List.Perm ((L6, cel (prC u 1) 145) :: ((L5, cel (prC 1 0) 145) :: (L4, cel (List.replicate 10 (.int .i64 0)) 100) :: (L3, cel (zi (dg (u : Int))) 100) :: S)) ((L6, cel (prC u 1) 145) :: ((L5, cel (prC 1 0) 145) :: (L4, cel (List.replicate 10 (.int .i64 0)) 100) :: (L3, cel (zi (dg (u : Int))) 100) :: S)) from permBy [[(L6, cel (prC u 1) 145)]] ((L5, cel (prC 1 0) 145) :: (L4, cel (List.replicate 10 (.int .i64 0)) 100) :: (L3, cel (zi (dg (u : Int))) 100) :: S) [0] [0] (by decide))⟩
  intro L6 hBL6
  refine Wp.seq ?_
  refine Wp.seq (Wp.region ?_)
  refine OWp.evs 1 rfl ?_
  refine OWp.nil ?_
  refine Wp.block ?_
  refine Wp.loopS (α := Nat × Four) (fun y => 255 - y.1) (fun y => [(0, .string (str s)), (3, pn L3), (4, pn L4), (5, pn L5), (6, pn L6), (7, .int .i64 (254 - (y.1 : Int)))]) (fun y => (L6, cel (prC y.2.x3 y.2.z3) 145) :: (L5, cel (prC y.2.x2 y.2.z2) 145) :: (L4, cel (List.replicate 10 (.int .i64 0)) 100) :: (L3, cel (zi (dg (u : Int))) 100) :: S) (fun y => y.1 ≤ 255 ∧ y.2 = lad K u y.1) (0, ⟨1, 0, u, 1⟩) ?_ (.refl _) ⟨Nat.zero_le _, rfl⟩ ?_
  · exact .cons rfl (.cons rfl (.cons rfl (.cons rfl (.cons rfl (.cons rfl (.nil _))))))
  rintro ⟨i, f⟩ ⟨hi, hf⟩
  simp only at hi hf ⊢
  obtain ⟨l1, l2, l3, l4⟩ := lad_lt K hu i
  rw [← hf] at l1 l2 l3 l4
  have hnext : i < 255 → lad K u (i + 1) = lbit u f (K.testBit (254 - i)) := fun _ => by rw [hf]; rfl
  refine Wp.seq ?_
  refine Wp.seq (Wp.region ?_)
  refine OWp.evs 2 rfl ?_
  refine OWp.nil ?_
  refine Wp.cond rfl (fun h1 => ?_) (fun h1 => ?_)
  · have h1 := of_decide_eq_true h1
    clear hf
    have hi1 : i < 255 := by omega
    have hnext := hnext hi1
    obtain ⟨n, hn⟩ : ∃ n : Nat, n = 254 - i := ⟨_, rfl⟩
    have hn2 : (254 : Int) - (i : Int) = (n : Int) := by omega
    rw [← hn] at hnext
    rw [hn2]
    refine Wp.skip ?_
    refine Wp.seq ?_
    refine Wp.block ?_
    refine Wp.seq (Wp.region ?_)
    refine OWp.evs 3 rfl ?_
    refine OWp.g rfl rfl (Gives.indexStr (b := (s.getD (n / 8) 0)) rfl rfl rfl rfl (by rw [quo8 (by omega)]; omega) (by rw [quo8 (by omega)]; exact getD_some (l := s) (i := n / 8) (by omega))) ?_
    refine OWp.evs 2 rfl ?_
    refine OWp.g rfl rfl (Gives.shr (m := n % 8) rfl rfl rfl rem8b) ?_
    refine OWp.evs 2 rfl ?_
    refine OWp.nil ?_
    obtain ⟨x2, z2, x3, z3⟩ := f
    simp only at l1 l2 l3 l4 hnext ⊢
    obtain ⟨bt, hbt⟩ : ∃ b, K.testBit n = b := ⟨_, rfl⟩
    rw [hbt] at hnext
    refine Wp.weaken (E' := [(0, .string (str s)), (3, pn L3), (4, pn L4), (5, pn L5), (6, pn L6), (7, .int .i64 (n : Int)), (8, .int .u8 (if bt then 1 else 0))]) (.cons rfl (.cons rfl (.cons rfl (.cons rfl (.cons rfl (.cons rfl (.cons' rfl (congrArg (Value.int IntKind.u8) (bit_u8 (s := s) (by rw [← hK]; exact hbt))) (.nil _)))))))) (fun _ h => h) ?_
    refine Wp.seq ?_
    refine Wp.seq (Wp.region ?_)
    cases bt
    · skip
      refine OWp.evs 2 rfl ?_
      refine OWp.nil ?_
      refine Wp.cond rfl (fun c => nomatch c) (fun _ => ?_)
      refine Wp.skip ?_
      refine Wp.seq (Wp.region ?_)
      refine OWp.load (.tail _ (.tail _ (.tail _ (.head _)))) rfl rfl rfl rfl (nm_part u) ?_
      refine OWp.load (.tail _ (.head _)) rfl rfl rfl rfl (pr_part x2 z2) ?_
      refine OWp.load (.head _) rfl rfl rfl rfl (pr_part x3 z3) ?_
      refine OWp.step rfl (Step.call rfl rfl rfl rfl rfl rfl ((rstepC hu l1 l2 l3 l4 ?_)))
      rw [show lbit u ⟨x2, z2, x3, z3⟩ false = lstep u ⟨x2, z2, x3, z3⟩ from rfl] at hnext
      generalize lstep u ⟨x2, z2, x3, z3⟩ = g at *
      refine OWp.evs 3 rfl ?_
      refine OWp.step rfl (Step.storeAs 1 (prC g.x2 g.z2) rfl rfl rfl rfl rfl hBL5 (show some 20 = some (prC g.x2 g.z2).length from congrArg some (prC_len g.x2 g.z2).symm) (Unfz.zero _) (prC_one g.x2 g.z2) (show 0 + (prC g.x2 g.z2).length ≤ _ from len_le20 (prC_len g.x2 g.z2) (prC_len x2 z2)) (wr_whole (show (prC g.x2 g.z2).length = _ from (prC_len g.x2 g.z2).trans (Eq.symm (prC_len x2 z2)))) rfl ?_)
      refine OWp.step rfl (Step.storeAs 0 (prC g.x3 g.z3) rfl rfl rfl rfl rfl hBL6 (show some 20 = some (prC g.x3 g.z3).length from congrArg some (prC_len g.x3 g.z3).symm) (Unfz.zero _) (prC_one g.x3 g.z3) (show 0 + (prC g.x3 g.z3).length ≤ _ from len_le20 (prC_len g.x3 g.z3) (prC_len x3 z3)) (wr_whole (show (prC g.x3 g.z3).length = _ from (prC_len g.x3 g.z3).trans (Eq.symm (prC_len x3 z3)))) rfl ?_)
      refine OWp.nil ?_
      refine Wp.seq (Wp.region ?_)
      refine OWp.evs 2 rfl ?_
      refine OWp.nil ?_
      refine Wp.cond rfl (fun c => nomatch c) (fun _ => ?_)
      refine Wp.skip ?_
      refine Wp.region ?_
      refine OWp.evs 3 rfl ?_
      refine OWp.nil ?_
      exact ⟨(i + 1, g), by simp only; omega, ⟨by simp only; omega, hnext.symm⟩, .cons rfl (.cons rfl (.cons rfl (.cons rfl (.cons rfl (.cons' rfl (int_eq (by simp only; rw [i64_id] <;> omega)) (.nil _)))))), .refl _⟩
    refine OWp.evs 2 rfl ?_
    refine OWp.nil ?_
    refine Wp.cond rfl (fun _ => ?_) (fun c => nomatch c)
    refine Wp.region ?_
    refine OWp.load (.head _) rfl rfl rfl rfl (pr_part x3 z3) ?_
    refine OWp.load (.tail _ (.head _)) rfl rfl rfl rfl (pr_part x2 z2) ?_
    refine OWp.step rfl (Step.storeAs 1 (prC x3 z3) rfl rfl rfl rfl rfl hBL5 (show some 20 = some (prC x3 z3).length from congrArg some (prC_len x3 z3).symm) (Unfz.zero _) (prC_one x3 z3) (show 0 + (prC x3 z3).length ≤ _ from len_le20 (prC_len x3 z3) (prC_len x2 z2)) (wr_whole (show (prC x3 z3).length = _ from (prC_len x3 z3).trans (Eq.symm (prC_len x2 z2)))) rfl ?_)
    refine OWp.step rfl (Step.storeAs 0 (prC x2 z2) rfl rfl rfl rfl rfl hBL6 (show some 20 = some (prC x2 z2).length from congrArg some (prC_len x2 z2).symm) (Unfz.zero _) (prC_one x2 z2) (show 0 + (prC x2 z2).length ≤ _ from len_le20 (prC_len x2 z2) (prC_len x3 z3)) (wr_whole (show (prC x2 z2).length = _ from (prC_len x2 z2).trans (Eq.symm (prC_len x3 z3)))) rfl ?_)
    refine OWp.nil ?_
    refine Wp.seq (Wp.region ?_)
    refine OWp.load (.tail _ (.tail _ (.tail _ (.head _)))) rfl rfl rfl rfl (nm_part u) ?_
    refine OWp.load (.tail _ (.head _)) rfl rfl rfl rfl (pr_part x3 z3) ?_
    refine OWp.load (.head _) rfl rfl rfl rfl (pr_part x2 z2) ?_
    refine OWp.step rfl (Step.call rfl rfl rfl rfl rfl rfl ((rstepC hu l3 l4 l1 l2 ?_)))
    rw [show lbit u ⟨x2, z2, x3, z3⟩ true = (lstep u ⟨x3, z3, x2, z2⟩).swap from rfl] at hnext
    generalize lstep u ⟨x3, z3, x2, z2⟩ = g at *
    refine OWp.evs 3 rfl ?_
    refine OWp.step rfl (Step.storeAs 1 (prC g.x2 g.z2) rfl rfl rfl rfl rfl hBL5 (show some 20 = some (prC g.x2 g.z2).length from congrArg some (prC_len g.x2 g.z2).symm) (Unfz.zero _) (prC_one g.x2 g.z2) (show 0 + (prC g.x2 g.z2).length ≤ _ from len_le20 (prC_len g.x2 g.z2) (prC_len x3 z3)) (wr_whole (show (prC g.x2 g.z2).length = _ from (prC_len g.x2 g.z2).trans (Eq.symm (prC_len x3 z3)))) rfl ?_)
    refine OWp.step rfl (Step.storeAs 0 (prC g.x3 g.z3) rfl rfl rfl rfl rfl hBL6 (show some 20 = some (prC g.x3 g.z3).length from congrArg some (prC_len g.x3 g.z3).symm) (Unfz.zero _) (prC_one g.x3 g.z3) (show 0 + (prC g.x3 g.z3).length ≤ _ from len_le20 (prC_len g.x3 g.z3) (prC_len x2 z2)) (wr_whole (show (prC g.x3 g.z3).length = _ from (prC_len g.x3 g.z3).trans (Eq.symm (prC_len x2 z2)))) rfl ?_)
    refine OWp.nil ?_
    refine Wp.seq (Wp.region ?_)
    refine OWp.evs 2 rfl ?_
    refine OWp.nil ?_
    refine Wp.cond rfl (fun _ => ?_) (fun c => nomatch c)
    refine Wp.region ?_
    refine OWp.load (.head _) rfl rfl rfl rfl (pr_part g.x3 g.z3) ?_
    refine OWp.load (.tail _ (.head _)) rfl rfl rfl rfl (pr_part g.x2 g.z2) ?_
    refine OWp.step rfl (Step.storeAs 1 (prC g.x3 g.z3) rfl rfl rfl rfl rfl hBL5 (show some 20 = some (prC g.x3 g.z3).length from congrArg some (prC_len g.x3 g.z3).symm) (Unfz.zero _) (prC_one g.x3 g.z3) (show 0 + (prC g.x3 g.z3).length ≤ _ from len_le20 (prC_len g.x3 g.z3) (prC_len g.x2 g.z2)) (wr_whole (show (prC g.x3 g.z3).length = _ from (prC_len g.x3 g.z3).trans (Eq.symm (prC_len g.x2 g.z2)))) rfl ?_)
    refine OWp.step rfl (Step.storeAs 0 (prC g.x2 g.z2) rfl rfl rfl rfl rfl hBL6 (show some 20 = some (prC g.x2 g.z2).length from congrArg some (prC_len g.x2 g.z2).symm) (Unfz.zero _) (prC_one g.x2 g.z2) (show 0 + (prC g.x2 g.z2).length ≤ _ from len_le20 (prC_len g.x2 g.z2) (prC_len g.x3 g.z3)) (wr_whole (show (prC g.x2 g.z2).length = _ from (prC_len g.x2 g.z2).trans (Eq.symm (prC_len g.x3 g.z3)))) rfl ?_)
    refine OWp.nil ?_
    refine Wp.region ?_
    refine OWp.evs 3 rfl ?_
    refine OWp.nil ?_
    exact ⟨(i + 1, g.swap), by simp only; omega, ⟨by simp only; omega, hnext.symm⟩, .cons rfl (.cons rfl (.cons rfl (.cons rfl (.cons rfl (.cons' rfl (int_eq (by simp only; rw [i64_id] <;> omega)) (.nil _)))))), .refl _⟩
  have h1 := of_decide_eq_false h1
  obtain rfl : i = 255 := by omega
  rw [show ladx K u = mulq f.x2 (invq f.z2) by rw [hf]; rfl] at H
  refine Wp.exit ?_
  refine Wp.seq (Wp.regionDraw [0, 1, 2, 3, 4, 5, 6] [4, 5, 6] rfl (by decide +kernel) ?_)
  refine DWp.evs 1 rfl ?_
  refine DWp.load (.tail _ (.head _)) rfl rfl rfl rfl rfl rfl (pr_x f.x2 f.z2) ?_
  refine DWp.evs 1 rfl ?_
  refine DWp.load (.tail _ (.head _)) rfl rfl rfl rfl rfl rfl (pr_z f.x2 f.z2) ?_
  refine DWp.stepGrow rfl rfl rfl (Step.call rfl rfl rfl rfl rfl rfl ((rinverseC l2 ?_)))
  refine ⟨fun _ hy => hy, ?_⟩
  refine DWp.stepGrow rfl rfl rfl (Step.call rfl rfl rfl rfl rfl rfl ((rtimesC l1 (invq_lt _) ?_)))
  refine ⟨fun _ hy => hy, ?_⟩
  refine DWp.stepAll rfl rfl rfl rfl (Step.storeAs 2 (zi (dg ((mulq f.x2 (invq f.z2) : Nat) : Int))) rfl rfl rfl rfl rfl hBL4 (show some 10 = some (zi (dg ((mulq f.x2 (invq f.z2) : Nat) : Int))).length from congrArg some (((zi_length _).trans (dg_len _)).symm)) (Unfz.zero _) (zi_one _) (show 0 + (zi (dg ((mulq f.x2 (invq f.z2) : Nat) : Int))).length ≤ _ from len_le ((zi_length _).trans (dg_len _)) rfl) (wr_whole (show (zi (dg ((mulq f.x2 (invq f.z2) : Nat) : Int))).length = _ from ((zi_length _).trans (dg_len _)).trans (Eq.symm rfl))) rfl ?_)
  have hpart := nm_part (mulq f.x2 (invq f.z2))
  refine DWp.nil ?_
  refine Wp.ret ⟨trivial, _, ⟨_, _, _, _, rfl, rfl, ⟨_, _, _, mems, (by first | assumption | rfl)⟩, rfl⟩, ?_⟩
  exact ⟨S, subl, H⟩
end
end Go.Proofs.D
