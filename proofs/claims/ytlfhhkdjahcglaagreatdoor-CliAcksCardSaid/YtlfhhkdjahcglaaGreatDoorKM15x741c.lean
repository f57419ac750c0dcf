/- What functions of the given program do, one after the other, told by that layer. -/
import Derived.Test.YtlfhhkdjahcglaaGreatDoorKM11x7e1e
import Derived.Test.YtlfhhkdjahcglaaGreatDoorKM6x1405
import Derived.Test.YtlfhhkdjahcglaaGreatDoorKM14xb10a
import Derived.Test.YtlfhhkdjahcglaaGreatDoorKM12x2dbd
import Derived.Test.YtlfhhkdjahcglaaGreatDoorKM13x2a7e
/- A gate of one account. -/
namespace Go.Proofs.D
open Go.Lg Go.Sha Go.Hd Go.Cv
set_option maxRecDepth 100000
attribute [local irreducible] hmac
section
variable {B : Nat} {S R : Ents} {Q : Value → Ents → Prop}
theorem ixAcNil {a : Option Addr} {c : Nat} {fv : Value} (H : Q (.int .i64 (-1)) S) : CallWp Tryz.prog B 110 #[.slice a 0 c, fv] Q S := by
 refine Yx (args := [_, _]) Tryz.func110 Tryz.ntmps110 ?_
 refine Yn 1 rfl ?_
 refine Wp.seq ?_
 refine Yn 3 rfl ?_
 refine Wp.block ?_
 refine Wp.loopS (α := Unit) (fun _ => 0) (fun _ => [(8, .int .i64 0), (7, .int .i64 0)]) (fun _ => S) (fun _ => True) () ?_ (.refl _) trivial ?_
 ·exact .cons rfl (.cons rfl (.nil _))
 rintro _ _
 refine Yn 1 rfl ?_
 refine Wp.seq ?_
 refine Wp.cond rfl (fun cc1 => absurd (of_decide_eq_true cc1) (by decide)) (fun cc1 => ?_)
 have cc1 := of_decide_eq_false cc1
 refine Wp.exit ?_
 refine Yn 1 rfl ?_
 refine Wp.ret ⟨trivial, _, ⟨_, _, rfl, rfl, rfl⟩, ?_⟩
 exact H
theorem hasAcNil {a : Option Addr} {c : Nat} {fv : Value} (H : Q (.bool false) S) : CallWp Tryz.prog B 71 #[.slice a 0 c, fv] Q S := by
 refine Yx (args := [_, _]) Tryz.func71 Tryz.ntmps71 ?_
 refine Yn 1 rfl ?_
 refine Yg 2 rfl ?_
 refine OWp.step rfl (Step.call rfl rfl rfl rfl rfl rfl ((ixAcNil ?_)))
 refine Yz 2 rfl ?_
 refine Wp.ret ⟨trivial, _, ⟨_, _, rfl, rfl, rfl⟩, ?_⟩
 exact H
theorem gcheckC {b user : Nat} {key : List UInt8} {e : TypeId} {fz : Nat × Nat} (hm : (b, cel [.int .i64 (user : Int), .string (str key)] e fz) ∈ S) (hu : user < 64) (hk : key.length = 32) (H : Q (.tuple #[.int .i64 0, .int .i64 0]) S) : CallWp Tryz.prog B 40 #[.slice (some ⟨b, 0, none⟩) 1 1] Q S := by
 refine CallWp.dropRet ?_
 refine Yx (args := [_]) Tryz.func40 Tryz.ntmps40 ?_
 refine Yn 2 rfl ?_
 refine Wp.seq ?_
 refine Yn 3 rfl ?_
 refine Wp.cond rfl (fun cc1 => absurd (of_decide_eq_true cc1) (by decide)) (fun cc1 => ?_)
 have cc1 := of_decide_eq_false cc1
 refine Wp.skip ?_
 refine Wp.seq ?_
 refine Yn 3 rfl ?_
 refine Wp.block ?_
 refine Wp.loopS (α := Nat) (fun i => 1 - i) (fun i => [(9, .slice (some ⟨b, 0, none⟩) 1 1), (10, .int .i64 1), (11, .int .i64 (i : Int)), (0, .slice (some ⟨b, 0, none⟩) 1 1)]) (fun _ => S) (fun i => i ≤ 1) 0 ?_ (.refl _) (Nat.zero_le _) ?_
 ·exact .cons rfl (.cons rfl (.cons rfl (.cons rfl (.nil _))))
 rintro i hi
 refine Yn 1 rfl ?_
 refine Wp.seq ?_
 refine Wp.cond rfl (fun c1 => ?_) (fun c1 => ?_)
 ·have c1 := of_decide_eq_true c1
  obtain rfl : i = 0 := by omega
  refine Wp.skip ?_
  refine Wp.seq ?_
  refine Wp.block ?_
  refine Yg 1 rfl ?_
  refine OWp.g rfl rfl (Gives.indexAddrSlice (0) rfl rfl rfl rfl rfl rfl (by omega)) ?_
  refine Yl hm ?_
  refine Ya rfl rfl rfl rfl fun L5 hBL5 hLL5 => ?_
  refine Ye 1 rfl ?_
  refine OWp.step rfl (Step.storeAs 0 ([.int .i64 (user : Int), .string (str key)]) rfl rfl rfl rfl rfl (by assumption) rfl (Unfz.zero _) rfl (Nat.le_of_ble_eq_true rfl) rfl rfl ?_)
  refine OWp.nil ?_
  refine Wp.block ?_
  refine Yg 1 rfl ?_
  refine Yl m0 ?_
  refine Ye 2 rfl ?_
  refine OWp.part 20 rfl (fun cc2 => absurd (of_decide_eq_true cc2) (by omega)) (fun cc2 => ?_)
  have cc2 := of_decide_eq_false cc2
  refine Ye 1 rfl ?_
  refine Yl m0 ?_
  refine Yz 3 rfl ?_
  refine Wp.cond rfl (fun cc3 => absurd (of_decide_eq_true cc3) (by omega)) (fun cc3 => ?_)
  have cc3 := of_decide_eq_false cc3
  refine Yg 2 rfl ?_
  refine OWp.g rfl rfl (Gives.sliceSlice (l := 0) (h' := 0) rfl rfl rfl rfl rfl ⟨_, _, rfl, rfl⟩ (by omega) (by omega) (by omega)) ?_
  refine Ye 1 rfl ?_
  refine OWp.step rfl (Step.call rfl rfl rfl rfl rfl rfl ((hasAcNil ?_)))
  refine Yz 1 rfl ?_
  refine Wp.cond rfl (fun c => nomatch c) (fun _ => ?_)
  refine Yg 1 rfl ?_
  refine Yl m0 ?_
  refine Yz 3 rfl ?_
  refine Wp.cond rfl (fun cc4 => absurd (ndT cc4) (by omega)) (fun cc4 => ?_)
  have cc4 := ndF cc4
  refine Wp.skip ?_
  refine Wp.drop (S' := S) (List.sublist_cons_self _ _) ?_
  refine Wp.region ?_
  refine Yz 2 rfl ?_
  exact ⟨1, by decide, by decide, .cons rfl (.cons rfl (.cons rfl (.cons rfl (.nil _)))), .refl _⟩
 have c1 := of_decide_eq_false c1
 refine Wp.exit ?_
 refine Yn 2 rfl ?_
 refine Wp.ret ⟨trivial, _, ⟨_, _, rfl, rfl, _, _, rfl, rfl, rfl⟩, ?_⟩
 exact ⟨S, .refl _, H⟩
theorem gnewC {b user : Nat} {key : List UInt8} {e : TypeId} {fz : Nat × Nat} (hm : (b, cel [.int .i64 (user : Int), .string (str key)] e fz) ∈ S) (hu : user < 64) (hk : key.length = 32)
  (H : ∀ g sg v es, B ≤ g → B ≤ sg → Lg.Own B 115 1 v 1 [pt sg] es → Q (.tuple #[pt g, .int .i64 0]) ((sg, cel [.int .i64 (user : Int), .string (str key), .int .i64 0] 117) :: (g, cel [v] 114) :: (es ++ S))) : CallWp Tryz.prog B 14 #[.slice (some ⟨b, 0, none⟩) 1 1] Q S := by
 refine Yx (args := [_]) Tryz.func14 Tryz.ntmps14 ?_
 refine Yn 2 rfl ?_
 refine Wp.seq ?_
 refine Yg 1 rfl ?_
 refine OWp.step rfl (Step.call rfl rfl rfl rfl rfl rfl ((gcheckC hm hu hk ?_)))
 refine Yz 5 rfl ?_
 refine Yn 2 rfl ?_
 refine Wp.cond rfl (fun cc1 => absurd (ndT cc1) (by exact fun h => h rfl)) (fun cc1 => ?_)
 have cc1 := ndF cc1
 refine Wp.skip ?_
 refine Yq ?_
 refine OWp.g rfl rfl (Gives.build rfl rfl) ?_
 refine Yb rfl rfl rfl rfl fun L6 hBL6 hLL6 => ?_
 refine Yz 1 rfl ?_
 refine Wp.seq ?_
 refine Yn 3 rfl ?_
 refine Wp.block ?_
 refine Wp.loopS (α := Nat × Value × Ents × Ents × Nat) (fun z => 1 - z.1) (fun z => [(6, pt L6), (19, .slice (some ⟨b, 0, none⟩) 1 1), (20, .int .i64 1), (21, .int .i64 (z.1 : Int))]) (fun z => z.2.2.2.1 ++ ((L6, cel [z.2.1] 114) :: (z.2.2.1 ++ S))) (fun z => (z.1 = 0 ∧ z.2.1 = .slice none 0 0 ∧ z.2.2.1 = [] ∧ z.2.2.2.1 = []) ∨ (z.1 = 1 ∧ Lg.Own B 115 1 z.2.1 1 [pt z.2.2.2.2] z.2.2.1 ∧ z.2.2.2.1 = [(z.2.2.2.2, cel [.int .i64 (user : Int), .string (str key), .int .i64 0] 117)] ∧ B ≤ z.2.2.2.2)) (0, .slice none 0 0, [], [], 0) ?_ (.refl _) (.inl ⟨rfl, rfl, rfl, rfl⟩) ?_
 ·exact .cons rfl (.cons rfl (.cons rfl (.cons rfl (.nil _))))
 rintro ⟨i, v, es, sge, sg⟩ h
 simp only at h ⊢
 refine Yq ?_
 rcases h with ⟨rfl, rfl, rfl, rfl⟩ | ⟨rfl, ho, rfl, hsg⟩
 ·skip
  simp only [List.nil_append]
  refine Yz 1 rfl ?_
  refine Wp.seq ?_
  refine Wp.cond rfl (fun cc2 => ?_) (fun cc2 => absurd (of_decide_eq_false cc2) (by decide))
  have cc2 := of_decide_eq_true cc2
  refine Wp.skip ?_
  refine Wp.seq ?_
  refine Wp.block ?_
  refine Yq ?_
  refine OWp.g rfl rfl (Gives.indexAddrSlice (0) rfl rfl rfl rfl rfl rfl (by omega)) ?_
  refine Yl (.tail _ hm) ?_
  refine Ya rfl rfl rfl rfl fun L8 hBL8 hLL8 => ?_
  refine OWp.step rfl (Step.storeAs 0 ([.int .i64 (user : Int), .string (str key)]) rfl rfl rfl rfl rfl (by assumption) rfl (Unfz.zero _) rfl (Nat.le_of_ble_eq_true rfl) rfl rfl ?_)
  refine OWp.nil ?_
  refine Wp.regionDraw [0, 1, 2, 3, 4, 5, 6, 7, 8, 9, 10, 11, 12] [7, 8, 9, 12] rfl (by decide +kernel) ?_
  refine DWp.evs 4 rfl ?_
  refine Yd m1 ?_
  refine Yd m0 ?_
  refine DWp.g rfl rfl rfl rfl (Gives.build rfl rfl) ?_
  refine DWp.stepGrow rfl rfl rfl (Step.box rfl rfl rfl ?_); intro L32 hBL32 hLL32; refine ⟨fun _ hy => .tail _ hy, ?_⟩
  obtain ⟨es0, he0⟩ : ∃ x : Ents, x = [] := ⟨_, rfl⟩
  have ho0 : Lg.Own B 115 1 (.slice none 0 0) 0 [] es0 := by rw [he0]; exact Own.nil _ _ _
  rw [show S = es0 ++ S by rw [he0]; rfl]
  refine DWp.stepGrow rfl rfl rfl (Step.buildSlice rfl rfl rfl ?_); intro Lp3 hBLp3 hLLp3; refine ⟨fun _ hy => .tail _ hy, ?_⟩
  refine DWp.stepAll rfl rfl rfl rfl (Step.appendAt [_, _, _, _] rfl rfl rfl rfl rfl rfl (by decide) rfl rfl ho0 (Reads.row (k := 1) (sz := 1) (.head _) (Nat.le_of_ble_eq_true rfl)) rfl (by show (_ + 1) * 8 ≤ _; omega) (by unfold maxLen; omega) ?_); intro v2 es2 ho2 _
  refine DWp.drop0 (List.sublist_cons_self _ _) ?_
  subst he0
  obtain ⟨va, vc, hv⟩ := ho2.reads.form
  subst hv
  refine DWp.evs 2 rfl ?_
  refine DWp.stepAll rfl rfl rfl rfl (Step.storeAs 2 ([.slice va 1 vc]) rfl rfl rfl rfl rfl hBL6 rfl (Unfz.zero _) rfl (Nat.le_of_ble_eq_true rfl) rfl rfl ?_)
  refine DWp.nil ?_
  refine Wp.drop (S' := (L32, cel [.int .i64 (user : Int), .string (str key), .int .i64 0] 117) :: (L6, cel [.slice va 1 vc] 114) :: (es2 ++ S)) ((List.sublist_cons_self _ _).cons_cons _) ?_
  refine Wp.region ?_
  refine Yz 2 rfl ?_
  exact ⟨(1, .slice va 1 vc, es2, [(L32, cel [.int .i64 (user : Int), .string (str key), .int .i64 0] 117)], L32), Nat.zero_lt_one, .inr ⟨rfl, ho2, rfl, hBL32⟩, .cons rfl (.cons rfl (.cons rfl (.cons rfl (.nil _)))), .refl _⟩
 refine Yz 1 rfl ?_
 refine Wp.seq ?_
 refine Wp.cond rfl (fun cc4 => absurd (of_decide_eq_true cc4) (by decide)) (fun cc4 => ?_)
 have cc4 := of_decide_eq_false cc4
 refine Wp.exit ?_
 refine Yn 3 rfl ?_
 refine Wp.ret ⟨trivial, _, ⟨_, _, rfl, rfl, _, _, rfl, rfl, rfl⟩, ?_⟩
 exact H L6 sg v es hBL6 hsg ho
def sgc (user : Nat) (key : List UInt8) (last : Int) : List Value := [.int .i64 (user : Int), .string (str key), .int .i64 last]
theorem find1C {sg L user : Nat} {key : List UInt8} {last : Int} {fz : Nat × Nat} (hs : (sg, cel (sgc user key last) 117 fz) ∈ S) (hL : (L, cel [.int .i64 (user : Int)] 3) ∈ S) (H : Q (.bool true) S) : CallWp Tryz.prog B 75 #[pt sg, pt L] Q S := by
 refine Yx (args := [_, _]) Tryz.func75 Tryz.ntmps75 ?_
 refine Yn 1 rfl ?_
 refine Wp.seq (Wp.regionDraw [0, 1, 2, 3, 4, 5, 6, 7] [] rfl (by decide +kernel) ?_)
 refine DWp.evs 4 rfl ?_
 refine Yd hs ?_
 refine Yd hL ?_
 refine DWp.evs 2 rfl ?_
 refine DWp.nil ?_
 refine Wp.ret ⟨trivial, _, ⟨_, _, rfl, rfl, rfl⟩, ?_⟩
 rw [decide_eq_true (show (user : Int) = user from rfl)]; exact H
theorem ixSgC {v : Value} {sg L user : Nat} {key : List UInt8} {last : Int} {fz : Nat × Nat} (hv : Reads S 1 v 1 [pt sg]) (hs : (sg, cel (sgc user key last) 117 fz) ∈ S) (hL : (L, cel [.int .i64 (user : Int)] 3) ∈ S) (H : Q (.int .i64 0) S) : CallWp Tryz.prog B 74 #[v, .func (.func 75) #[] #[pt L]] Q S := by
 obtain ⟨b, o, cap', l', e, fz', rfl, hm', _, hg'⟩ := hv.get1 (by decide)
 refine Yx (args := [_, _]) Tryz.func74 Tryz.ntmps74 ?_
 refine Yn 1 rfl ?_
 refine Wp.seq ?_
 refine Yn 3 rfl ?_
 refine Wp.block ?_
 refine Wp.loopS (α := Unit) (fun _ => 0) (fun _ => [(8, .int .i64 0), (7, .int .i64 1), (0, .slice (some ⟨b, o, none⟩) 1 cap'), (1, .func (.func 75) #[] #[pt L])]) (fun _ => S) (fun _ => True) () ?_ (.refl _) trivial ?_
 ·exact .cons rfl (.cons rfl (.cons rfl (.cons rfl (.nil _))))
 rintro _ _
 refine Yn 1 rfl ?_
 refine Wp.seq ?_
 refine Wp.cond rfl (fun cc1 => ?_) (fun cc1 => absurd (of_decide_eq_false cc1) (by decide))
 have cc1 := of_decide_eq_true cc1
 refine Wp.skip ?_
 refine Wp.seq ?_
 refine Wp.block ?_
 refine Yn 2 rfl ?_
 refine Yg 3 rfl ?_
 refine OWp.g rfl rfl (Gives.indexAddrSlice (0) rfl rfl rfl rfl rfl rfl (by omega)) ?_
 refine OWp.load hm' rfl rfl rfl rfl (hg' 0 (by decide)) ?_
 refine OWp.step rfl (Step.call rfl rfl rfl rfl rfl rfl ((find1C hs hL ?_)))
 refine OWp.nil ?_
 refine Wp.cond rfl (fun _ => ?_) (fun c => nomatch c)
 refine Yn 2 rfl ?_
 refine Wp.ret ⟨trivial, _, ⟨_, _, rfl, rfl, rfl⟩, ?_⟩
 exact H
theorem gfindC {g sg user : Nat} {v : Value} {key : List UInt8} {last : Int} {fz fz2 : Nat × Nat} (hg : (g, cel [v] 114 fz2) ∈ S) (hv : Reads S 1 v 1 [pt sg]) (hs : (sg, cel (sgc user key last) 117 fz) ∈ S) (H : Q (pt sg) S) : CallWp Tryz.prog B 43 #[pt g, .int .i64 (user : Int)] Q S := by
 refine CallWp.dropRet ?_
 obtain ⟨b, o, cap', l', e, fz', rfl, hm', _, hg'⟩ := hv.get1 (by decide)
 refine Yx (args := [_, _]) Tryz.func43 Tryz.ntmps43 ?_
 refine Yq ?_
 refine Yb rfl rfl rfl rfl fun L3 hBL3 hLL3 => ?_
 refine Yz 1 rfl ?_
 refine Yg 3 rfl ?_
 refine Yl (.tail _ hg) ?_
 refine Ye 1 rfl ?_
 refine OWp.step rfl (Step.call rfl rfl rfl rfl rfl rfl ((ixSgC (hv.mono fun x h => .tail _ h) (.tail _ hs) (.head _) ?_)))
 refine Yz 1 rfl ?_
 refine Wp.seq ?_
 refine Yn 2 rfl ?_
 refine Wp.cond rfl (fun cc1 => absurd (of_decide_eq_true cc1) (by decide)) (fun cc1 => ?_)
 have cc1 := of_decide_eq_false cc1
 refine Wp.skip ?_
 refine Yg 3 rfl ?_
 refine Yl (.tail _ hg) ?_
 refine Ye 1 rfl ?_
 refine OWp.g rfl rfl (Gives.indexAddrSlice (0) rfl rfl rfl rfl rfl rfl (by omega)) ?_
 refine OWp.load (.tail _ hm') rfl rfl rfl rfl (hg' 0 (by decide)) ?_
 refine Yz 1 rfl ?_
 refine Wp.ret ⟨trivial, _, ⟨_, _, rfl, rfl, rfl⟩, ?_⟩
 exact ⟨S, subl, H⟩
theorem admitPullC {g sg user seq : Nat} {v : Value} {key : List UInt8} {last : Nat} {fz2 : Nat × Nat} (hks : KsIn S) (hk : key.length = 32) (hu : user < 64) (h1 : 1 ≤ seq) (h2 : seq ≤ 2147483647) (hlt : last < seq) (hB : B ≤ sg) (hg : (g, cel [v] 114 fz2) ∈ S) (hv : Reads S 1 v 1 [pt sg])
  (H : Q (.int .i64 0) ((sg, cel (sgc user key seq) 117) :: S)) : CallWp Tryz.prog B 16 #[pt g, .agg (mlc 2 user seq [] (pullT key user seq) (.slice none 0 0) (.slice none 0 0)).toArray] Q ((sg, cel (sgc user key last) 117) :: S) := by
 have htl : (pullT key user seq).length = 32 := hmac_len _ _
 refine C.subRet ?_
 refine Yx (args := [_, _]) Tryz.func16 Tryz.ntmps16 ?_
 refine Yq ?_
 refine Yb rfl rfl rfl rfl fun L3 hBL3 hLL3 => ?_
 refine Yz 1 rfl ?_
 refine Yq ?_
 refine Yl m0 ?_
 refine OWp.step rfl (Step.call rfl rfl rfl rfl rfl rfl ((plainPullC hu h1 h2 ?_)))
 refine Yz 5 rfl ?_
 refine Wp.seq ?_
 refine Yg 3 rfl ?_
 refine OWp.part 15 rfl (fun cc1 => absurd (ndT cc1) (by exact fun h => h rfl)) (fun cc1 => ?_)
 have cc1 := ndF cc1
 refine Ye 1 rfl ?_
 refine Yl m0 ?_
 refine Yz 3 rfl ?_
 refine Wp.cond rfl (fun cc2 => absurd (ndT cc2) (by omega)) (fun cc2 => ?_)
 have cc2 := ndF cc2
 refine Wp.skip ?_
 refine Yg 2 rfl ?_
 refine Yl m0 ?_
 refine OWp.step rfl (Step.call rfl rfl rfl rfl rfl rfl ((gfindC (.tail _ (.tail _ hg)) (hv.mono fun x h => .tail _ (.tail _ h)) (.tail _ (.head _)) ?_)))
 refine Yz 1 rfl ?_
 refine Wp.seq ?_
 refine Wp.block ?_
 refine Wp.seq (Wp.regionDraw [0, 1, 2, 3, 4, 5, 6, 7, 8, 11, 12, 9, 10, 13, 14, 15, 16] [9, 10, 13] rfl (by decide +kernel) ?_)
 refine DWp.evs 3 rfl ?_
 refine DWp.evs 4 rfl ?_
 refine Yd m1 ?_
 refine DWp.evs 2 rfl ?_
 refine Yd m0 ?_
 refine DWp.stepGrow rfl rfl rfl (Step.buildSlice rfl rfl rfl ?_); intro L35 hBL35 hLL35; refine ⟨fun _ hy => .tail _ hy, ?_⟩
 refine DWp.stepGrow rfl rfl rfl (Step.call rfl rfl rfl rfl rfl rfl ((tagC (l := [gateW, pullB user seq zer32]) (Reads.row (k := 2) (sz := 1) (.head _) (Nat.le_of_ble_eq_true rfl)) (by decide) hks.cons.cons.cons (by rw [hk]; decide) (by simp [gateW, pullB_len, zer32]; decide) ?_)))
 refine ⟨fun _ hy => hy, ?_⟩
 rw [show hmac key ([gateW, pullB user seq zer32] : List (List UInt8)).flatten = pullT key user seq by simp [pullT]]
 refine DWp.stepGrow rfl rfl rfl (Step.call rfl rfl rfl rfl rfl rfl ((sameC rfl (by rw [htl]; decide) ?_)))
 refine ⟨fun _ hy => hy, ?_⟩
 rw [decide_eq_true (rfl : pullT key user seq = pullT key user seq)]
 refine DWp.evs 3 rfl ?_
 refine DWp.nil ?_
 refine Wp.cond rfl (fun c => nomatch c) (fun _ => ?_)
 refine Wp.seq (Wp.regionDraw [0, 1, 2, 3, 4, 5, 6, 7] [] rfl (by decide +kernel) ?_)
 refine DWp.evs 1 rfl ?_
 refine Yd m1 ?_
 refine DWp.evs 3 rfl ?_
 refine Yd m2 ?_
 refine DWp.evs 2 rfl ?_
 refine DWp.nil ?_
 refine Wp.cond rfl (fun cc3 => absurd (of_decide_eq_true cc3) (by omega)) (fun cc3 => ?_)
 have cc3 := of_decide_eq_false cc3
 refine Wp.skip ?_
 refine Yg 2 rfl ?_
 refine Yl m1 ?_
 refine Ye 2 rfl ?_
 refine OWp.step rfl (Step.storeAs 2 (sgc user key seq) rfl rfl rfl rfl rfl hB rfl (Unfz.zero _) rfl (Nat.le_of_ble_eq_true rfl) rfl rfl ?_)
 refine OWp.nil ?_
 refine Yn 1 rfl ?_
 refine Wp.ret ⟨trivial, _, ⟨_, _, rfl, rfl, rfl⟩, ?_⟩
 exact ⟨_, _, .refl _, subl, H⟩
theorem admitAckC {g sg user seq : Nat} {v : Value} {key : List UInt8} {iv : Value} {ids : List (List UInt8)} {last : Nat} {fz2 : Nat × Nat} (hks : KsIn S) (hk : key.length = 32) (hu : user < 64) (h1 : 1 ≤ seq) (h2 : seq ≤ 2147483647) (hlt : last < seq) (hB : B ≤ sg) (hg : (g, cel [v] 114 fz2) ∈ S) (hv : Reads S 1 v 1 [pt sg]) (hl : Reads S 1 iv ids.length (strs ids)) (hcap : ∀ a m c, iv = .slice a m c → m ≤ c) (h4 : ids.length ≤ 4) (hid : ∀ s ∈ ids, idP s)
  (H : Q (.int .i64 0) ((sg, cel (sgc user key seq) 117) :: S)) : CallWp Tryz.prog B 16 #[pt g, .agg (mlc 4 user seq [] (ackT key user seq ids) (.slice none 0 0) iv).toArray] Q ((sg, cel (sgc user key last) 117) :: S) := by
 have htl : (ackT key user seq ids).length = 32 := hmac_len _ _
 have hbl : (ackB user seq zer32 ids).length = 102 := ackB_len (List.length_replicate ..) hid h4
 obtain ⟨ia, ic, rfl⟩ := hl.form
 refine C.subRet ?_
 refine Yx (args := [_, _]) Tryz.func16 Tryz.ntmps16 ?_
 refine Yq ?_
 refine Yb rfl rfl rfl rfl fun L3 hBL3 hLL3 => ?_
 refine Yz 1 rfl ?_
 refine Yq ?_
 refine Yl m0 ?_
 refine OWp.step rfl (Step.call rfl rfl rfl rfl rfl rfl ((plainAckC hu h1 h2 (hl.mono fun x h => .tail _ (.tail _ h)) hcap h4 hid ?_)))
 refine Yz 5 rfl ?_
 refine Wp.seq ?_
 refine Yg 3 rfl ?_
 refine OWp.part 15 rfl (fun cc1 => absurd (ndT cc1) (by exact fun h => h rfl)) (fun cc1 => ?_)
 have cc1 := ndF cc1
 refine Ye 1 rfl ?_
 refine Yl m0 ?_
 refine Yz 3 rfl ?_
 refine Wp.cond rfl (fun cc2 => absurd (ndT cc2) (by omega)) (fun cc2 => ?_)
 have cc2 := ndF cc2
 refine Wp.skip ?_
 refine Yg 2 rfl ?_
 refine Yl m0 ?_
 refine OWp.step rfl (Step.call rfl rfl rfl rfl rfl rfl ((gfindC (.tail _ (.tail _ hg)) (hv.mono fun x h => .tail _ (.tail _ h)) (.tail _ (.head _)) ?_)))
 refine Yz 1 rfl ?_
 refine Wp.seq ?_
 refine Wp.block ?_
 refine Wp.seq (Wp.regionDraw [0, 1, 2, 3, 4, 5, 6, 7, 8, 11, 12, 9, 10, 13, 14, 15, 16] [9, 10, 13] rfl (by decide +kernel) ?_)
 refine DWp.evs 3 rfl ?_
 refine DWp.evs 4 rfl ?_
 refine Yd m1 ?_
 refine DWp.evs 2 rfl ?_
 refine Yd m0 ?_
 refine DWp.stepGrow rfl rfl rfl (Step.buildSlice rfl rfl rfl ?_); intro L35 hBL35 hLL35; refine ⟨fun _ hy => .tail _ hy, ?_⟩
 refine DWp.stepGrow rfl rfl rfl (Step.call rfl rfl rfl rfl rfl rfl ((tagC (l := [gateW, ackB user seq zer32 ids]) (Reads.row (k := 2) (sz := 1) (.head _) (Nat.le_of_ble_eq_true rfl)) (by decide) hks.cons.cons.cons (by rw [hk]; decide) (by simp [gateW, hbl]; decide) ?_)))
 refine ⟨fun _ hy => hy, ?_⟩
 rw [show hmac key ([gateW, ackB user seq zer32 ids] : List (List UInt8)).flatten = ackT key user seq ids by simp [ackT]]
 refine DWp.stepGrow rfl rfl rfl (Step.call rfl rfl rfl rfl rfl rfl ((sameC rfl (by rw [htl]; decide) ?_)))
 refine ⟨fun _ hy => hy, ?_⟩
 rw [decide_eq_true (rfl : ackT key user seq ids = ackT key user seq ids)]
 refine DWp.evs 3 rfl ?_
 refine DWp.nil ?_
 refine Wp.cond rfl (fun c => nomatch c) (fun _ => ?_)
 refine Wp.seq (Wp.regionDraw [0, 1, 2, 3, 4, 5, 6, 7] [] rfl (by decide +kernel) ?_)
 refine DWp.evs 1 rfl ?_
 refine Yd m1 ?_
 refine DWp.evs 3 rfl ?_
 refine Yd m2 ?_
 refine DWp.evs 2 rfl ?_
 refine DWp.nil ?_
 refine Wp.cond rfl (fun cc3 => absurd (of_decide_eq_true cc3) (by omega)) (fun cc3 => ?_)
 have cc3 := of_decide_eq_false cc3
 refine Wp.skip ?_
 refine Yg 2 rfl ?_
 refine Yl m1 ?_
 refine Ye 2 rfl ?_
 refine OWp.step rfl (Step.storeAs 2 (sgc user key seq) rfl rfl rfl rfl rfl hB rfl (Unfz.zero _) rfl (Nat.le_of_ble_eq_true rfl) rfl rfl ?_)
 refine OWp.nil ?_
 refine Yn 1 rfl ?_
 refine Wp.ret ⟨trivial, _, ⟨_, _, rfl, rfl, rfl⟩, ?_⟩
 exact ⟨_, _, .refl _, subl, H⟩
end
end Go.Proofs.D

/- The ledger of loops: what comes back. -/
namespace Go.Proofs.D
open Go.Lg Go.Sha Go.Hd Go.Cv
set_option maxRecDepth 100000
theorem wr_at2 (A C : List Value) (x y z v : Value) : wr (A ++ (x :: y :: z :: C)) (A.length + 2) [v] = A ++ (x :: y :: v :: C) := by
 unfold wr
 rw [show A.length + 2 + [v].length = A.length + 3 from rfl, List.take_length_add_append, List.drop_length_add_append]
 simp
theorem lp_split {L : List Lp} {i : Nat} (h : i < L.length) : L.flatMap Lp.cells = (L.take i).flatMap Lp.cells ++ (Lp.cells L[i] ++ (L.drop (i + 1)).flatMap Lp.cells) := by
 conv => lhs; rw [← List.take_append_drop i L, List.drop_eq_getElem_cons h, List.flatMap_append, List.flatMap_cons]
theorem lp_len3 : ∀ l : List Lp, (l.flatMap Lp.cells).length = l.length * 3
 | [] => rfl
 | x :: l => by rw [List.flatMap_cons, List.length_append, lp_len3 l, List.length_cons]; show 3 + _ = _; omega
/-- A loop of the row is marked. -/
theorem own_mark {B b cap i : Nat} {cur : List Value} {L : List Lp} (hB : B ≤ b) (hk : L.length ≤ cap) (hm : cap ≤ maxLen) (hcl : cur.length = cap * 3) (htk : cur.take (L.length * 3) = L.flatMap Lp.cells) (h : i < L.length) :
  ∃ L' : List Lp, L'.length = L.length ∧ Lg.Own B 187 3 (.slice (some ⟨b, 0, none⟩) L.length cap) L'.length (L'.flatMap Lp.cells) [(b, cel (wr cur (0 + i * 3 + 2) [.bool true]) 187)] := by
 have hA : ((L.take i).flatMap Lp.cells).length = i * 3 := by rw [lp_len3, List.length_take]; omega
 have hcur : cur = (L.take i).flatMap Lp.cells ++ (.string (str L[i].id) :: .int .i64 L[i].at_ :: .bool L[i].came :: ((L.drop (i + 1)).flatMap Lp.cells ++ cur.drop (L.length * 3))) := by
  conv => lhs; rw [← List.take_append_drop (L.length * 3) cur, htk, lp_split h, List.append_assoc, List.append_assoc]
  rfl
 refine ⟨L.take i ++ ⟨L[i].id, L[i].at_, true⟩ :: L.drop (i + 1), by simp; omega, ?_⟩
 have hl : (L.take i ++ ⟨L[i].id, L[i].at_, true⟩ :: L.drop (i + 1)).length = L.length := by simp; omega
 rw [hl]
 have hw : wr cur (0 + i * 3 + 2) [.bool true] = (L.take i ++ ⟨L[i].id, L[i].at_, true⟩ :: L.drop (i + 1)).flatMap Lp.cells ++ cur.drop (L.length * 3) := by
  conv => lhs; rw [hcur]
  rw [show 0 + i * 3 + 2 = ((L.take i).flatMap Lp.cells).length + 2 by omega, wr_at2, List.flatMap_append, List.flatMap_cons, List.append_assoc, List.append_assoc]
  rfl
 refine ⟨by rw [lp_len3, hl], .inr ⟨b, cap, _, rfl, rfl, hB, hk, hm, ?_, ?_⟩⟩
 ·rw [hw, List.length_append, lp_len3, hl, List.length_drop, hcl]
  omega
 ·rw [hw]
  exact List.take_left' (by rw [lp_len3, hl])
theorem came_at {i : Nat} {cur : List Value} {L : List Lp} (htk : cur.take (L.length * 3) = L.flatMap Lp.cells) (h : i < L.length) : cur[0 + i * 3 + 2]? = some (.bool L[i].came) := by
 have hA : ((L.take i).flatMap Lp.cells).length = i * 3 := by rw [lp_len3, List.length_take]; omega
 have h1 : cur[0 + i * 3 + 2]? = (cur.take (L.length * 3))[0 + i * 3 + 2]? := by rw [List.getElem?_take, if_pos (by omega)]
 rw [h1, htk, lp_split h, List.getElem?_append_right (by omega), hA, show 0 + i * 3 + 2 - i * 3 = 2 by omega]
 rfl
section
variable {B : Nat} {S R : Ents} {Q : Value → Ents → Prop}
theorem lbackC {p : Nat} {wd dl th now at_ : Int} {lv : Value} {L : List Lp} {es : Ents} {id : List UInt8} (hB : B ≤ p) (hp : lpP wd dl th) (h0 : 0 ≤ now) (h1 : now ≤ at_) (h2 : at_ ≤ 1099511627776) (ho : Lg.Own B 187 3 lv L.length (L.flatMap Lp.cells) es) (hl : L.length ≤ 4096)
  (H : ∀ (e : Int) (lv' : Value) (L' : List Lp) (es' : Ents), L'.length ≤ 4096 → Lg.Own B 187 3 lv' L'.length (L'.flatMap Lp.cells) es' → Q (.int .i64 e) ((p, cel (lgc wd dl th at_ lv') 147) :: (es' ++ R))) :
  CallWp Tryz.prog B 50 #[.pointer (some ⟨p, 0, none⟩), .int .i64 at_, .string (str id)] Q ((p, cel (lgc wd dl th now lv) 147) :: (es ++ R)) := by
 obtain ⟨K, hK⟩ : ∃ K, K = keepF wd dl at_ L := ⟨_, rfl⟩
 have hKl : K.length ≤ 4096 := by rw [hK]; have := keepF_len wd dl at_ L; omega
 refine Yx (args := [_, _, _]) Tryz.func50 Tryz.ntmps50 ?_
 refine Yn 1 rfl ?_
 refine Wp.seq ?_
 refine Yg 2 rfl ?_
 refine OWp.step rfl (Step.call rfl rfl rfl rfl rfl rfl ((lmoveC hB hp h0 h1 h2 ho (by omega) ?_)))
 rw [← hK]
 intro lv' es' ho'
 refine Yz 1 rfl ?_
 refine Yn 2 rfl ?_
 refine Wp.cond rfl (fun cc1 => absurd (ndT cc1) (by exact fun h => h rfl)) (fun cc1 => ?_)
 have cc1 := ndF cc1
 refine Wp.skip ?_
 refine Yq ?_
 by_cases hKe : K.length = 0
 ·skip
  refine Ye 2 rfl ?_
  refine OWp.step rfl (Step.call rfl rfl rfl rfl rfl rfl ((lfindAnyC ho' (by omega) (.head _) (fun x h => .tail _ (List.mem_append_left _ h)) ?_ (fun hs => absurd hs (by rintro ⟨x, hx, _⟩; exact absurd (List.length_pos_of_mem hx) (by omega))))))
  intro hno
  refine Yz 1 rfl ?_
  refine Wp.seq ?_
  refine Wp.block ?_
  refine Yn 3 rfl ?_
  refine Wp.cond rfl (fun _ => ?_) (fun c => nomatch c)
  refine Yn 1 rfl ?_
  refine Wp.ret ⟨trivial, _, ⟨_, _, rfl, rfl, rfl⟩, ?_⟩
  exact H _ _ K es' hKl ho'
 obtain ⟨b, cap, cur, rfl, rfl, hBb, hkc, hcm, hcl, htk⟩ := own_row ho' (by omega)
 refine Ye 2 rfl ?_
 refine OWp.step rfl (Step.call rfl rfl rfl rfl rfl rfl ((lfindC (.head _) (.tail _ (.head _)) htk (by omega) ?_ ?_)))
 intro hno
 ·skip
  refine Yz 1 rfl ?_
  refine Wp.seq ?_
  refine Wp.block ?_
  refine Yn 3 rfl ?_
  refine Wp.cond rfl (fun _ => ?_) (fun c => nomatch c)
  refine Yn 1 rfl ?_
  refine Wp.ret ⟨trivial, _, ⟨_, _, rfl, rfl, rfl⟩, ?_⟩
  exact H _ _ K _ hKl ho'
 intro i hi _ _
 refine Yz 1 rfl ?_
 refine Wp.seq ?_
 refine Wp.block ?_
 refine Yn 3 rfl ?_
 refine Wp.cond rfl (fun c => nomatch c) (fun _ => ?_)
 obtain ⟨L', hL', hoL⟩ := own_mark hBb hkc hcm hcl htk hi
 refine Yg 3 rfl ?_
 refine OWp.load (.tail _ (.head _)) rfl rfl rfl rfl (by show cur[0 + i * 3 + 2]? = some (.bool K[i].came); exact came_at htk hi) ?_
 cases K[i].came
 ·skip
  refine Yz 1 rfl ?_
  refine Wp.cond rfl (fun c => nomatch c) (fun _ => ?_)
  refine Wp.skip ?_
  refine Yg 3 rfl ?_
  refine OWp.step rfl (Step.storeAs 1 (wr cur (0 + i * 3 + 2) [.bool true]) rfl rfl rfl rfl rfl hBb rfl (Unfz.zero _) rfl (by show 0 + i * 3 + 2 + 1 ≤ cur.length; omega) rfl rfl ?_)
  refine OWp.nil ?_
  refine Yn 1 rfl ?_
  refine Wp.ret ⟨trivial, _, ⟨_, _, rfl, rfl, rfl⟩, ?_⟩
  exact H 0 _ L' [(b, cel (wr cur (0 + i * 3 + 2) [.bool true]) 187)] (by omega) hoL
 refine Yz 1 rfl ?_
 refine Wp.cond rfl (fun _ => ?_) (fun c => nomatch c)
 refine Yn 1 rfl ?_
 refine Wp.ret ⟨trivial, _, ⟨_, _, rfl, rfl, rfl⟩, ?_⟩
 exact H _ _ K _ hKl ho'
end
end Go.Proofs.D

/- A joiner takes no empty text. -/
namespace Go.Proofs.D
open Go.Lg Go.Sha Go.Hd Go.Cv
set_option maxRecDepth 100000
section
variable {B : Nat} {S R : Ents} {Q : Value → Ents → Prop}
theorem preadC (H : Q (.tuple #[.agg #[.string (str []), .string (str []), .string (str []), .int .i64 0, .int .i64 0], .bool false]) S) : CallWp Tryz.prog B 84 #[.string (str [])] Q S := by
 refine CallWp.dropRet ?_
 refine Yx (args := [_]) Tryz.func84 Tryz.ntmps84 ?_
 refine Yq ?_
 refine Ya rfl rfl rfl rfl fun L2 hBL2 hLL2 => ?_
 refine Yz 1 rfl ?_
 refine Wp.seq ?_
 refine Yn 3 rfl ?_
 refine Wp.cond rfl (fun cc1 => ?_) (fun cc1 => absurd (of_decide_eq_false cc1) (by decide))
 have cc1 := of_decide_eq_true cc1
 refine Yq ?_
 refine Yl m0 ?_
 refine OWp.step rfl (Step.storeAs 0 ([.string (str []), .string (str []), .string (str []), .int .i64 0, .int .i64 0]) rfl rfl rfl rfl rfl (by assumption) rfl (Unfz.zero _) rfl (Nat.le_of_ble_eq_true rfl) rfl rfl ?_)
 refine Yz 1 rfl ?_
 refine Wp.ret ⟨trivial, _, ⟨_, _, _, _, rfl, rfl, ⟨_, _, _, mems, (by first | assumption | rfl)⟩, ⟨_, _, rfl, rfl, rfl⟩⟩, ?_⟩
 exact ⟨S, subl, H⟩
theorem ptakeC {p : Value} (H : Q (.tuple #[.agg #[.string (str []), .string (str [])], .bool false, .int .i64 220]) S) : CallWp Tryz.prog B 51 #[p, .string (str [])] Q S := by
 refine CallWp.dropRet ?_
 refine Yx (args := [_, _]) Tryz.func51 Tryz.ntmps51 ?_
 refine Yq ?_
 refine Ya rfl rfl rfl rfl fun L4 hBL4 hLL4 => ?_
 refine Yz 2 rfl ?_
 refine Yg 1 rfl ?_
 refine OWp.step rfl (Step.call rfl rfl rfl rfl rfl rfl ((preadC ?_)))
 refine Ye 3 rfl ?_
 refine Ya rfl rfl rfl rfl fun L7 hBL7 hLL7 => ?_
 refine OWp.step rfl (Step.storeAs 0 ([.string (str []), .string (str []), .string (str []), .int .i64 0, .int .i64 0]) rfl rfl rfl rfl rfl (by assumption) rfl (Unfz.zero _) rfl (Nat.le_of_ble_eq_true rfl) rfl rfl ?_)
 refine Yz 1 rfl ?_
 refine Wp.seq ?_
 refine Yn 2 rfl ?_
 refine Wp.cond rfl (fun _ => ?_) (fun c => nomatch c)
 refine Yq ?_
 refine OWp.g rfl rfl (Gives.build rfl rfl) ?_
 refine OWp.step rfl (Step.storeAs 1 ([.string (str []), .string (str [])]) rfl rfl rfl rfl rfl hBL4 rfl (Unfz.zero _) rfl (Nat.le_of_ble_eq_true rfl) rfl rfl ?_)
 refine Yz 2 rfl ?_
 refine Wp.ret ⟨trivial, _, ⟨_, _, _, _, rfl, rfl, ⟨_, _, _, mems, (by first | assumption | rfl)⟩, ⟨_, _, rfl, rfl, ⟨_, _, rfl, rfl, rfl⟩⟩⟩, ?_⟩
 exact ⟨S, subl, H⟩
end
end Go.Proofs.D

/- slices.Contains of texts. -/
namespace Go.Proofs.D
open Go.Lg Go.Sha Go.Hd Go.Cv
set_option maxRecDepth 100000
section
variable {B : Nat} {S R : Ents} {Q : Value → Ents → Prop}
theorem indexStrC {v : Value} {l : List (List UInt8)} {s : List UInt8} (hl : Reads S 1 v l.length (strs l)) (hm : l.length ≤ 140737488355328) (h0 : s ∉ l → Q (.int .i64 (-1)) S) (h1 : ∀ i : Nat, s ∈ l → Q (.int .i64 (i : Int)) S) :
  CallWp Tryz.prog B 81 #[v, .string (str s)] Q S := by
 obtain ⟨aa, ac, rfl⟩ := hl.form
 refine Yx (args := [_, _]) Tryz.func81 Tryz.ntmps81 ?_
 refine Yn 1 rfl ?_
 refine Wp.seq ?_
 refine Yn 3 rfl ?_
 refine Wp.block ?_
 refine Wp.loopS (α := Nat) (fun i => l.length - i) (fun i => [(8, .int .i64 (i : Int)), (7, .int .i64 (l.length : Int)), (0, .slice aa l.length ac), (1, .string (str s))]) (fun _ => S) (fun i => i ≤ l.length ∧ s ∉ l.take i) 0 ?_ (.refl _) ⟨Nat.zero_le _, by simp⟩ ?_
 ·exact .cons rfl (.cons rfl (.cons rfl (.cons rfl (.nil _))))
 rintro i ⟨hi, hn⟩
 refine Yn 1 rfl ?_
 refine Wp.seq ?_
 refine Wp.cond rfl (fun c1 => ?_) (fun c1 => ?_)
 ·have c1 := of_decide_eq_true c1
  have hlt : i < l.length := by omega
  obtain ⟨b, o, cap', l', e, fz, hv, hm', _, hg'⟩ := hl.get1 (by omega)
  cases hv
  have x1 : l[i]? = some l[i] := by simp
  refine Wp.skip ?_
  refine Wp.seq ?_
  refine Wp.block ?_
  refine Yn 2 rfl ?_
  refine Yg 3 rfl ?_
  refine OWp.g rfl rfl (Gives.indexAddrSlice (i) rfl rfl rfl rfl rfl rfl (by omega)) ?_
  refine OWp.load hm' rfl rfl rfl rfl ((hg' i hlt).trans (by rw [strs, List.getElem?_map, x1]; rfl)) ?_
  refine Yz 1 rfl ?_
  refine Wp.cond rfl (fun c2 => ?_) (fun c2 => ?_)
  ·skip
   have he : s = l[i] := of_decide_eq_true c2
   refine Yn 2 rfl ?_
   refine Wp.ret ⟨trivial, _, ⟨_, _, rfl, rfl, rfl⟩, ?_⟩
   exact h1 i (by rw [he]; exact List.getElem_mem hlt)
  have he : s ≠ l[i] := of_decide_eq_false c2
  refine Wp.skip ?_
  refine Wp.region ?_
  refine Yz 2 rfl ?_
  exact ⟨i + 1, by omega, ⟨by omega, by rw [List.take_succ_eq_append_getElem hlt, List.mem_append, List.mem_singleton]; exact fun h => h.elim hn he⟩, .cons' rfl (int_eq (i64_inc (by omega))) (.cons rfl (.cons rfl (.cons rfl (.nil _)))), .refl _⟩
 have c1 := of_decide_eq_false c1
 refine Wp.exit ?_
 refine Yn 1 rfl ?_
 refine Wp.ret ⟨trivial, _, ⟨_, _, rfl, rfl, rfl⟩, ?_⟩
 obtain rfl : i = l.length := by omega
 rw [List.take_length] at hn
 exact h0 hn
theorem containsStrC {v : Value} {l : List (List UInt8)} {s : List UInt8} (hl : Reads S 1 v l.length (strs l)) (hm : l.length ≤ 140737488355328) (H : Q (.bool (decide (s ∈ l))) S) :
  CallWp Tryz.prog B 49 #[v, .string (str s)] Q S := by
 refine Yx (args := [_, _]) Tryz.func49 Tryz.ntmps49 ?_
 refine Yn 1 rfl ?_
 refine Yg 2 rfl ?_
 refine OWp.step rfl (Step.call rfl rfl rfl rfl rfl rfl ((indexStrC hl hm ?_ ?_)))
 intro h
 ·skip
  rw [decide_eq_false h] at H
  refine Yz 2 rfl ?_
  refine Wp.ret ⟨trivial, _, ⟨_, _, rfl, rfl, rfl⟩, ?_⟩
  exact H
 intro i h
 refine Yz 2 rfl ?_
 refine Wp.ret ⟨trivial, _, ⟨_, _, rfl, rfl, rfl⟩, ?_⟩
 rw [decide_eq_true h] at H
 rw [decide_eq_true (show (0 : Int) ≤ (i : Int) by omega)]
 exact H
end
end Go.Proofs.D

/- The client takes replies. -/
namespace Go.Proofs.D
open Go.Lg Go.Sha Go.Hd Go.Cv
set_option maxRecDepth 100000
attribute [local irreducible] hmac
section
variable {B : Nat} {S R : Ents} {Q : Value → Ents → Prop} {c : Ck} {qv : Value} {nx : List Nat} {now : Int} {many seq : Nat} {dry : Bool}
theorem csignAckC (ho : CkOk B R c) (hR : ∀ x ∈ R, x ∈ S) (hq : seq < 2147483647) {iv : Value} {ids : List (List UInt8)} (hl : Reads S 1 iv ids.length (strs ids)) (hcap : ∀ a m c, iv = .slice a m c → m ≤ c) (h4 : ids.length ≤ 4) (hid : ∀ s ∈ ids, idP s)
  (H : Q (.tuple #[.string (str (ackB c.user (seq + 1) (ackT c.key c.user (seq + 1) ids) ids)), .bool true]) (cle c qv nx now many (seq + 1) dry :: S)) :
  CallWp Tryz.prog B 52 #[pt c.p, .agg (mlc 4 0 0 [] [] (.slice none 0 0) iv).toArray] Q (cle c qv nx now many seq dry :: S) := by
 obtain ⟨ia, ic, rfl⟩ := hl.form
 refine C.subRet ?_
 refine Yx (args := [_, _]) Tryz.func52 Tryz.ntmps52 ?_
 refine Yq ?_
 refine Yb rfl rfl rfl rfl fun L3 hBL3 hLL3 => ?_
 refine Yz 2 rfl ?_
 refine Yg 3 rfl ?_
 refine Yl m1 ?_
 refine Ye 3 rfl ?_
 refine OWp.step rfl (Step.storeAs 1 (clc c qv nx now many (seq + 1) dry) rfl rfl rfl rfl rfl ho.hp rfl (Unfz.zero _) rfl (Nat.le_of_ble_eq_true rfl) (by rw [i64_inc (by omega)]; rfl) rfl ?_)
 refine OWp.nil ?_
 refine Wp.seq (Wp.regionDraw [0, 1, 2, 3, 4, 5, 6, 7, 8, 9, 10, 11, 12] [10, 12] rfl (by decide +kernel) ?_)
 refine DWp.evs 4 rfl ?_
 refine Yd m1 ?_
 refine DWp.evs 3 rfl ?_
 refine Yd m1 ?_
 refine DWp.evs 1 rfl ?_
 refine DWp.step rfl rfl rfl (Step.storeAs 0 (mlc 4 c.user 0 [] [] (.slice none 0 0) (.slice ia ids.length ic)) rfl rfl rfl rfl rfl (by assumption) rfl (Unfz.zero _) rfl (Nat.le_of_ble_eq_true rfl) rfl rfl ?_)
 refine prs ?_
 refine DWp.evs 1 rfl ?_
 refine DWp.stepAll rfl rfl rfl rfl (Step.storeAs 0 (mlc 4 c.user (seq + 1 : Nat) [] [] (.slice none 0 0) (.slice ia ids.length ic)) rfl rfl rfl rfl rfl (by assumption) rfl (Unfz.zero _) rfl (Nat.le_of_ble_eq_true rfl) rfl rfl ?_)
 refine DWp.nil ?_
 refine Wp.seq (Wp.regionDraw [0, 1, 2, 3, 4, 5, 6, 7, 8, 9, 10] [6, 10] rfl (by decide +kernel) ?_)
 refine DWp.evs 4 rfl ?_
 refine Yd m1 ?_
 refine Yd m0 ?_
 refine DWp.step rfl rfl rfl (Step.call rfl rfl rfl rfl rfl rfl ((signAckC (KsIn_of ho.ks fun x hx => .tail _ (.tail _ (hR x hx))) ho.key ho.user (by omega) (by omega) (hl.mono fun x h => .tail _ (.tail _ h)) hcap h4 hid ?_)))
 intro v' es' hv'
 obtain ⟨va, vc, rfl⟩ := hv'.reads.form
 refine prs ?_
 refine DWp.evs 3 rfl ?_
 refine DWp.step rfl rfl rfl (Step.permS (List.perm_append_comm_assoc es' [_, _] S) (Step.storeAs 0 (mlc 4 c.user (seq + 1 : Nat) [] (ackT c.key c.user (seq + 1) ids) (.slice none 0 0) (.slice va ids.length vc)) rfl rfl rfl rfl rfl hBL3 rfl (Unfz.zero _) rfl (Nat.le_of_ble_eq_true rfl) rfl rfl ?_))
 refine prs ?_
 refine DWp.nil ?_
 refine Yq ?_
 refine Yl m0 ?_
 refine OWp.step rfl (Step.call rfl rfl rfl rfl rfl rfl ((encAckC ho.user (by omega) (by omega) (hmac_len _ _) (hv'.reads.mono fun x h => List.mem_append_right [_, _] (List.mem_append_left _ h)) (fun a m d hd => own_cap hv' hd) h4 hid ?_)))
 refine Yz 5 rfl ?_
 refine Yn 5 rfl ?_
 refine Wp.ret ⟨trivial, _, ⟨_, _, rfl, rfl, _, _, rfl, rfl, rfl⟩, ?_⟩
 exact ⟨_, cle c qv nx now many (seq + 1) dry :: S, .refl _, .cons _ (.cons_cons _ (show S.Sublist (es' ++ S) from List.sublist_append_right _ _)), H⟩
/-- A reply to another, or of a number that was not asked, is refused. -/
theorem ctakeNoC {user sq' fn : Nat} {l : List Slot} (hu : user < 64) (h1 : 1 ≤ sq') (h2 : sq' ≤ 2147483647) (h4 : l.length = 4) (hf : fillN l fn) (hno : user ≠ c.user ∨ seq < sq')
  (H : Q (.tuple #[.slice none 0 0, .string (str []), .int .i64 200]) (cle c qv nx now many seq dry :: S)) :
  CallWp Tryz.prog B 18 #[pt c.p, .string (str (mailB 3 user sq' (restB l 0)))] Q (cle c qv nx now many seq dry :: S) := by
 refine C.subRet ?_
 refine Yx (args := [_, _]) Tryz.func18 Tryz.ntmps18 ?_
 refine Yn 3 rfl ?_
 refine Yg 1 rfl ?_
 refine OWp.step rfl (Step.call rfl rfl rfl rfl rfl rfl ((decWhoC (k := 3) (tag := []) (l := l) (ids := []) hu h1 h2 (.inr (.inl ⟨rfl, rfl, rfl, h4, ⟨fn, hf⟩, rfl⟩)) ?_)))
 intro sv iv es fs hos hoi _ _
 obtain ⟨sa, sc, rfl⟩ := hos.reads.form
 obtain ⟨ia, ic, rfl⟩ := hoi.reads.form
 refine Ye 3 rfl ?_
 refine Ya rfl rfl rfl rfl fun L7 hBL7 hLL7 => ?_
 refine OWp.step rfl (Step.storeAs 0 (mlc 3 user sq' [] [] (.slice sa l.length sc) (.slice ia 0 ic)) rfl rfl rfl rfl rfl (by assumption) rfl (Unfz.zero _) rfl (Nat.le_of_ble_eq_true rfl) rfl rfl ?_)
 refine Yz 1 rfl ?_
 refine Wp.seq ?_
 refine Wp.block ?_
 refine Yg 3 rfl ?_
 refine OWp.part 22 rfl (fun cc1 => absurd (ndT cc1) (by exact fun h => h rfl)) (fun cc1 => ?_)
 have cc1 := ndF cc1
 refine Ye 1 rfl ?_
 refine Yl m0 ?_
 refine Yz 3 rfl ?_
 refine Wp.cond rfl (fun cc2 => absurd (ndT cc2) (by decide)) (fun cc2 => ?_)
 have cc2 := ndF cc2
 refine Wp.seq (Wp.regionDraw [0, 1, 2, 3, 4, 5, 6, 7, 8, 9, 10, 11, 12, 13, 14, 15, 16, 17] [] rfl (by decide +kernel) ?_)
 refine DWp.evs 1 rfl ?_
 refine Yd m0 ?_
 refine DWp.evs 4 rfl ?_
 refine Yd (.tail _ (List.mem_append_right _ (List.mem_append_right _ (.head _)))) ?_
 by_cases hu2 : user = c.user
 ·skip
  refine DWp.evs 2 rfl ?_
  refine DWp.part 36 rfl (fun cc3 => absurd (ndT cc3) (by omega)) (fun cc3 => ?_)
  have cc3 := ndF cc3
  refine DWp.evs 1 rfl ?_
  refine Yd m0 ?_
  refine DWp.evs 3 rfl ?_
  refine Yd (.tail _ (List.mem_append_right _ (List.mem_append_right _ (.head _)))) ?_
  refine DWp.evs 3 rfl ?_
  refine DWp.nil ?_
  refine Wp.cond rfl (fun cc4 => ?_) (fun cc4 => absurd (of_decide_eq_false cc4) (by omega))
  have cc4 := of_decide_eq_true cc4
  refine Yn 3 rfl ?_
  refine Wp.ret ⟨trivial, _, ⟨_, _, rfl, rfl, _, _, rfl, rfl, _, _, rfl, rfl, rfl⟩, ?_⟩
  exact ⟨_, cle c qv nx now many seq dry :: S, .refl _, .cons _ ((List.sublist_append_right _ _).trans (List.sublist_append_right _ _)), H⟩
 refine DWp.evs 2 rfl ?_
 refine DWp.part 36 rfl (fun cc5 => ?_) (fun cc5 => absurd (ndF cc5) (by omega))
 have cc5 := ndT cc5
 refine DWp.evs 9 rfl ?_
 refine DWp.nil ?_
 refine Wp.cond rfl (fun _ => ?_) (fun c => nomatch c)
 refine Yn 3 rfl ?_
 refine Wp.ret ⟨trivial, _, ⟨_, _, rfl, rfl, _, _, rfl, rfl, _, _, rfl, rfl, rfl⟩, ?_⟩
 exact ⟨_, cle c qv nx now many seq dry :: S, .refl _, .cons _ ((List.sublist_append_right _ _).trans (List.sublist_append_right _ _)), H⟩
end
end Go.Proofs.D

/- The client takes a reply. -/
namespace Go.Proofs.D
open Go.Lg Go.Sha Go.Hd Go.Cv
set_option maxRecDepth 100000
attribute [local irreducible] hmac
section
variable {B : Nat} {S R : Ents} {Q : Value → Ents → Prop} {c : Ck} {qv : Value} {nx : List Nat} {now : Int} {many seq : Nat} {dry : Bool}
/-- The ids that are answered: each once, in order. -/
def idsOf (l : List Slot) (fn i : Nat) (A : List (List UInt8)) : Prop := A.length ≤ min i fn ∧ (∀ s ∈ A, idP s) ∧ (0 < min i fn → A.head? = (l.head?.map fun x => x.1))
theorem ids_head {l : List Slot} {fn i : Nat} {A : List (List UInt8)} {x : List UInt8} (h : 0 < min i fn → A.head? = (l.head?.map fun x => x.1)) (hm : x ∈ A) (hl : A.length ≤ min i fn) : A.head? = (l.head?.map fun x => x.1) :=
 h (by have := List.length_pos_of_mem hm; omega)
theorem ids_push {l : List Slot} {fn i : Nat} {A : List (List UInt8)} (hi : i < fn) (hlt : i < l.length) (he : idP l[i].1) (ha : idsOf l fn i A) : idsOf l fn (i + 1) (A ++ [l[i].1]) := by
 obtain ⟨h1, h2, h3⟩ := ha
 refine ⟨by rw [List.length_append, List.length_singleton]; omega, ?_, fun _ => ?_⟩
 ·intro s hs
  rcases List.mem_append.1 hs with hs | hs
  ·exact h2 s hs
  ·rw [List.mem_singleton.1 hs]; exact he
 ·cases A with
  | nil =>
   by_cases h0 : i = 0
   ·subst h0
    cases l with
    | nil => simp at hlt
    | cons x l => rfl
   ·have := h3 (by omega)
    cases l with
    | nil => simp at hlt
    | cons x l => simp at this
  | cons a A =>
   rw [List.cons_append, List.head?_cons, ← h3 (by rw [List.length_cons] at h1; omega)]
   rfl
theorem ctakeC (ho : CkOk B R c) (hR : ∀ x ∈ R, x ∈ S) {sq' fn : Nat} {l : List Slot} {lnow : Int} {lv : Value} {L : List Lp} {les : Ents} (h1 : 1 ≤ sq') (hsq : sq' ≤ seq) (hq : seq < 2147483647) (h4 : l.length = 4) (hf : fillN l fn) (htx : ∀ x ∈ l, x.2 = []) (hn0 : 0 ≤ lnow) (hn1 : lnow ≤ now) (hn2 : now ≤ 1099511627776) (hlv : Lg.Own B 187 3 lv L.length (L.flatMap Lp.cells) les) (hL : L.length ≤ 4096)
  (H : ∀ (A : List (List UInt8)) (ln : Int) (lv' : Value) (L' : List Lp) (les' : Ents), idsOf l fn 4 A → lnow ≤ ln → ln ≤ now → L'.length ≤ 4096 → Lg.Own B 187 3 lv' L'.length (L'.flatMap Lp.cells) les' → Q (.tuple #[.slice none 0 0, .string (str (ackB c.user (seq + 1) (ackT c.key c.user (seq + 1) A) A)), .int .i64 0]) (cle c qv nx now many (seq + 1) dry :: (lde c ln lv' :: (les' ++ S)))) :
  CallWp Tryz.prog B 18 #[pt c.p, .string (str (mailB 3 c.user sq' (restB l 0)))] Q (cle c qv nx now many seq dry :: (lde c lnow lv :: (les ++ S))) := by
 refine C.subRet ?_
 refine Yx (args := [_, _]) Tryz.func18 Tryz.ntmps18 ?_
 refine Yn 3 rfl ?_
 refine Yg 1 rfl ?_
 refine OWp.step rfl (Step.call rfl rfl rfl rfl rfl rfl ((decWhoC (k := 3) (tag := []) (l := l) (ids := []) ho.user h1 (by omega) (.inr (.inl ⟨rfl, rfl, rfl, h4, ⟨fn, hf⟩, rfl⟩)) ?_)))
 intro sv iv es fs hos hoi _ _
 obtain ⟨sa, sc, rfl⟩ := hos.reads.form
 obtain ⟨ia, ic, rfl⟩ := hoi.reads.form
 refine Ye 3 rfl ?_
 refine Ya rfl rfl rfl rfl fun L7 hBL7 hLL7 => ?_
 refine OWp.step rfl (Step.storeAs 0 (mlc 3 c.user sq' [] [] (.slice sa l.length sc) (.slice ia 0 ic)) rfl rfl rfl rfl rfl (by assumption) rfl (Unfz.zero _) rfl (Nat.le_of_ble_eq_true rfl) rfl rfl ?_)
 refine Yz 1 rfl ?_
 refine Wp.seq ?_
 refine Wp.block ?_
 refine Yg 3 rfl ?_
 refine OWp.part 22 rfl (fun cc1 => absurd (ndT cc1) (by exact fun h => h rfl)) (fun cc1 => ?_)
 have cc1 := ndF cc1
 refine Ye 1 rfl ?_
 refine Yl m0 ?_
 refine Yz 3 rfl ?_
 refine Wp.cond rfl (fun cc2 => absurd (ndT cc2) (by decide)) (fun cc2 => ?_)
 have cc2 := ndF cc2
 refine Wp.seq (Wp.regionDraw [0, 1, 2, 3, 4, 5, 6, 7, 8, 9, 10, 11, 12, 13, 14, 15, 16, 17] [] rfl (by decide +kernel) ?_)
 refine DWp.evs 1 rfl ?_
 refine Yd m0 ?_
 refine DWp.evs 4 rfl ?_
 refine Yd (.tail _ (List.mem_append_right _ (List.mem_append_right _ (.head _)))) ?_
 refine DWp.evs 2 rfl ?_
 refine DWp.part 36 rfl (fun cc3 => absurd (ndT cc3) (by exact fun h => h rfl)) (fun cc3 => ?_)
 have cc3 := ndF cc3
 refine DWp.evs 1 rfl ?_
 refine Yd m0 ?_
 refine DWp.evs 3 rfl ?_
 refine Yd (.tail _ (List.mem_append_right _ (List.mem_append_right _ (.head _)))) ?_
 refine DWp.evs 3 rfl ?_
 refine DWp.nil ?_
 refine Wp.cond rfl (fun cc4 => absurd (of_decide_eq_true cc4) (by omega)) (fun cc4 => ?_)
 have cc4 := of_decide_eq_false cc4
 refine Wp.skip ?_
 refine Yn 1 rfl ?_
 refine Wp.seq ?_
 refine Yg 1 rfl ?_
 refine Yl m0 ?_
 obtain ⟨b, o, cap', l', e, fz, hv, hm', hat⟩ := hos.reads.elem (sz := 2) (sl_flat l) (by omega)
 cases hv
 refine Yz 2 rfl ?_
 show Wp _ _ _ _ _ _ _
 refine Wp.drop (S' := es ++ ((c.p, cel (clc c qv nx now many seq dry) 98) :: (lde c lnow lv :: (les ++ S)))) (.cons _ ((List.Sublist.refl _).append (List.sublist_append_right _ _))) (Wp.permS (List.perm_append_comm_assoc es (_ :: _ :: les) S) ?_)
 refine Wp.block ?_
 refine Wp.loopS (α := Nat × (Value × List (List UInt8) × Ents) × Int × Value × List Lp × Ents) (fun z => 4 - z.1) (fun z => [(0, pt c.p), (4, .slice none 0 0), (7, pt L7), (8, z.2.1.1), (46, .slice (some ⟨b, o, none⟩) l.length sc), (47, .int .i64 4), (48, .int .i64 (z.1 : Int))]) (fun z => (c.p, cel (clc c qv nx now many seq dry) 98) :: (lde c z.2.2.1 z.2.2.2.1 :: (z.2.2.2.2.2 ++ (z.2.1.2.2 ++ (es ++ S))))) (fun z => z.1 ≤ 4 ∧ Lg.Own B 9 1 z.2.1.1 z.2.1.2.1.length (strs z.2.1.2.1) z.2.1.2.2 ∧ idsOf l fn z.1 z.2.1.2.1 ∧ lnow ≤ z.2.2.1 ∧ z.2.2.1 ≤ now ∧ z.2.2.2.2.1.length ≤ 4096 ∧ Lg.Own B 187 3 z.2.2.2.1 z.2.2.2.2.1.length (z.2.2.2.2.1.flatMap Lp.cells) z.2.2.2.2.2) (0, (.slice none 0 0, [], []), lnow, lv, L, les) ?_ (.refl _) ⟨Nat.zero_le _, Own.nil _ _ _, ⟨Nat.zero_le _, (fun _ h => nomatch h), (fun h => by omega)⟩, Int.le_refl _, hn1, hL, hlv⟩ ?_
 ·exact .cons rfl (.cons rfl (.cons rfl (.cons rfl (.cons rfl (.cons' rfl (by rw [h4]; rfl) (.cons rfl (.nil _)))))))
 rintro ⟨i, ⟨v, A, gs⟩, ln, lw, L1, le1⟩ ⟨hi, hoA, ⟨ha1, ha2, ha3⟩, hln0, hln1, hL1, hoL⟩
 simp only at hi hoA ha1 ha2 ha3 hln0 hln1 hL1 hoL ⊢
 refine Yn 1 rfl ?_
 refine Wp.seq ?_
 refine Wp.cond rfl (fun c1 => ?_) (fun c1 => ?_)
 ·have c1 := of_decide_eq_true c1
  have hlt : i < l.length := by omega
  refine Wp.skip ?_
  refine Wp.seq ?_
  refine Wp.block ?_
  refine Yq ?_
  refine OWp.g rfl rfl (Gives.indexAddrSlice (i) rfl rfl rfl rfl rfl rfl (by omega)) ?_
  refine OWp.load (.tail _ (.tail _ (List.mem_append_right _ (List.mem_append_right _ (List.mem_append_left _ hm'))))) rfl rfl rfl rfl (partAt_agg (hat i hlt) rfl rfl rfl) ?_
  refine Ya rfl rfl rfl rfl fun L10 hBL10 hLL10 => ?_
  refine OWp.step rfl (Step.storeAs 0 (slc l[i]) rfl rfl rfl rfl rfl (by assumption) rfl (Unfz.zero _) rfl (Nat.le_of_ble_eq_true rfl) rfl rfl ?_)
  refine OWp.nil ?_
  refine Wp.seq ?_
  refine Yg 1 rfl ?_
  refine Yl m0 ?_
  by_cases hfi : i < fn
  ·skip
   have he := hf.2.1 i hlt hfi
   refine Yz 1 rfl ?_
   refine Wp.cond rfl (fun cc5 => absurd (of_decide_eq_true cc5) (by exact fun h => absurd he.1.1 (by rw [h]; decide))) (fun cc5 => ?_)
   have cc5 := of_decide_eq_false cc5
   refine Wp.skip ?_
   refine Wp.seqS (α := Value × List (List UInt8) × Ents) (fun y => [(0, pt c.p), (4, .slice none 0 0), (7, pt L7), (8, y.1), (10, pt L10), (46, .slice (some ⟨b, o, none⟩) l.length sc), (47, .int .i64 4), (48, .int .i64 (i : Int))]) (fun y => (L10, cel (slc l[i]) 64) :: (c.p, cel (clc c qv nx now many seq dry) 98) :: (lde c ln lw :: (le1 ++ (y.2.2 ++ (es ++ S))))) (fun y => Lg.Own B 9 1 y.1 y.2.1.length (strs y.2.1) y.2.2 ∧ idsOf l fn (i + 1) y.2.1) ?_ ?_
   ·skip
    refine Yg 2 rfl ?_
    refine Yl m0 ?_
    refine OWp.step rfl (Step.call rfl rfl rfl rfl rfl rfl ((containsStrC (l := A) (hoA.reads.mono fun x h => .tail _ (.tail _ (.tail _ (List.mem_append_right _ (List.mem_append_left _ h))))) (by omega) ?_)))
    by_cases hmem : l[i].1 ∈ A
    ·skip
     rw [decide_eq_true hmem]
     refine Yz 1 rfl ?_
     refine Wp.cond rfl (fun c => nomatch c) (fun _ => ?_)
     refine Wp.skip ?_
     exact ⟨(v, A, gs), ⟨hoA, ⟨by simp only; omega, ha2, fun _ => ids_head ha3 hmem ha1⟩⟩, .cons rfl (.cons rfl (.cons rfl (.cons rfl (.cons rfl (.cons rfl (.cons rfl (.cons rfl (.nil _)))))))), .refl _⟩
    rw [decide_eq_false hmem]
    refine Yz 1 rfl ?_
    refine Wp.cond rfl (fun _ => ?_) (fun c => nomatch c)
    refine Wp.region ?_
    refine Ye 2 rfl ?_
    refine Yl m0 ?_
    refine OWp.step rfl (Step.buildSlice rfl rfl rfl ?_); intro L63 hBL63 hLL63
    obtain ⟨va, vc, hva⟩ := hoA.reads.form
    refine OWp.step rfl (Step.appendAt (_ :: _ :: _ :: _ :: le1) rfl rfl rfl rfl rfl rfl (by decide) rfl rfl hoA (Reads.row (k := 1) (sz := 1) (.head _) (Nat.le_of_ble_eq_true rfl)) rfl (by show (_ + 1) * 16 ≤ _; omega) (by unfold maxLen; omega) ?_)
    intro v2 gs2 ho2 _
    refine OWp.dropAt 0 rfl ?_
    have ho3 : Lg.Own B 9 1 v2 (A ++ [l[i].1]).length (strs (A ++ [l[i].1])) gs2 := by rw [List.length_append, strs, List.map_append]; exact ho2
    refine Yz 1 rfl ?_
    exact ⟨(v2, A ++ [l[i].1], gs2), ⟨ho3, ids_push hfi hlt he.1 ⟨ha1, ha2, ha3⟩⟩, .cons rfl (.cons rfl (.cons rfl (.cons rfl (.cons rfl (.cons rfl (.cons rfl (.cons rfl (.nil _)))))))), .refl _⟩
   rintro ⟨v2, A2, gs2⟩ ⟨ho2, hA2⟩
   simp only at ho2 hA2 ⊢
   refine Wp.seq ?_
   refine Wp.seq (Wp.regionDraw [0, 1, 2, 3, 4, 5, 6, 7, 8, 9, 10, 11] [10] rfl (by decide +kernel) ?_)
   refine DWp.evs 3 rfl ?_
   refine Yd m1 ?_
   refine DWp.evs 3 rfl ?_
   refine Yd m1 ?_
   refine DWp.evs 1 rfl ?_
   refine Yd m0 ?_
   refine DWp.step rfl rfl rfl (Step.call rfl rfl rfl rfl rfl rfl ((CallWp.permS (List.perm_append_comm_assoc [_, _] (lde c ln lw :: le1) (gs2 ++ (es ++ S))) (lbackC (R := (L10, cel (slc l[i]) 64) :: (c.p, cel (clc c qv nx now many seq dry) 98) :: (gs2 ++ (es ++ S))) ho.hpl ho.lp (by omega) hln1 hn2 hoL hL1 ?_))))
   intro er lw' L2 le2 hL2 hoL2
   refine prs ?_
   refine DWp.evs 1 rfl ?_
   refine DWp.nil ?_
   refine Wp.cond rfl (fun ce => ?_) (fun ce => ?_)
   ·skip
    refine Wp.exit ?_
    refine Wp.permS (List.perm_append_comm_assoc (lde c now lw' :: le2) [_, _] (gs2 ++ (es ++ S))) (Wp.drop (List.sublist_cons_self _ _) ?_)
    refine Wp.region ?_
    refine Yz 2 rfl ?_
    exact ⟨(i + 1, (v2, A2, gs2), now, lw', L2, le2), by simp only; omega, ⟨by simp only; omega, ho2, hA2, by simp only; omega, Int.le_refl _, hL2, hoL2⟩, .cons rfl (.cons rfl (.cons rfl (.cons rfl (.cons rfl (.cons rfl (.cons' rfl (int_eq (i64_inc (by omega))) (.nil _))))))), .refl _⟩
   have hx2 : l[i].2 = [] := htx _ (List.getElem_mem hlt)
   refine Wp.skip ?_
   refine Wp.seq (Wp.regionDraw [0, 1, 2, 3, 4, 5, 15, 15, 15, 15, 15, 15, 15, 15, 15] [6, 11, 12] rfl (by decide +kernel) ?_)
   refine DWp.evs 3 rfl ?_
   refine Yd (show (c.p, cel (clc c qv nx now many seq dry) 98) ∈ _ from by repeat (first | exact List.Mem.head _ | assumption | exact List.mem_append_left _ (by assumption) | apply List.mem_cons_of_mem | apply List.mem_append_right)) ?_
   refine DWp.evs 1 rfl ?_
   refine Yd (show (L10, cel (slc l[i]) 64) ∈ _ from by repeat (first | exact List.Mem.head _ | assumption | exact List.mem_append_left _ (by assumption) | apply List.mem_cons_of_mem | apply List.mem_append_right)) ?_
   rw [hx2]
   refine DWp.forkTo [6, 11] (by decide +kernel) (by simp) ?_
   intro xx hxx
   simp only [List.mem_cons, List.mem_nil_iff, or_false] at hxx
   rcases hxx with rfl | rfl
   ·refine ⟨_, [7, 8, 9, 10, 11, 12, 13, 14], rfl, rfl, by decide +kernel, rfl, ?_⟩
    refine (Step.call rfl rfl rfl rfl rfl rfl (ptakeC ?_))
    refine prs ?_
    refine DWp.evs 4 rfl ?_
    refine DWp.step rfl rfl rfl (Step.alloc rfl rfl rfl ?_); intro L11 hBL11 hLL11
    refine prs ?_
    refine DWp.step rfl rfl rfl (Step.storeAs 0 ([.string (str []), .string (str [])]) rfl rfl rfl rfl rfl (by assumption) rfl (Unfz.zero _) rfl (Nat.le_of_ble_eq_true rfl) rfl rfl ?_)
    refine prs ?_
    refine DWp.evs 2 rfl ?_
    refine DWp.nil ?_
    refine Yn 1 rfl ?_
    refine Wp.cond rfl (fun c => nomatch c) (fun _ => ?_)
    refine Wp.skip ?_
    refine Wp.drop (List.sublist_cons_self _ _) (Wp.permS (List.perm_append_comm_assoc (lde c now lw' :: le2) [_, _] (gs2 ++ (es ++ S))) (Wp.drop (List.sublist_cons_self _ _) ?_))
    refine Wp.region ?_
    refine Yz 2 rfl ?_
    exact ⟨(i + 1, (v2, A2, gs2), now, lw', L2, le2), by simp only; omega, ⟨by simp only; omega, ho2, hA2, by simp only; omega, Int.le_refl _, hL2, hoL2⟩, .cons rfl (.cons rfl (.cons rfl (.cons rfl (.cons rfl (.cons rfl (.cons' rfl (int_eq (i64_inc (by omega))) (.nil _))))))), .refl _⟩
   ·refine ⟨_, [6, 7, 8, 9, 10, 12, 13, 14], rfl, rfl, by decide +kernel, rfl, ?_⟩
    refine (Step.alloc rfl rfl rfl ?_); intro L11 hBL11 hLL11
    refine prs ?_
    refine DWp.step rfl rfl rfl (Step.call rfl rfl rfl rfl rfl rfl (ptakeC ?_))
    refine prs ?_
    refine DWp.evs 4 rfl ?_
    refine DWp.step rfl rfl rfl (Step.storeAs 0 ([.string (str []), .string (str [])]) rfl rfl rfl rfl rfl (by assumption) rfl (Unfz.zero _) rfl (Nat.le_of_ble_eq_true rfl) rfl rfl ?_)
    refine prs ?_
    refine DWp.evs 2 rfl ?_
    refine DWp.nil ?_
    refine Yn 1 rfl ?_
    refine Wp.cond rfl (fun c => nomatch c) (fun _ => ?_)
    refine Wp.skip ?_
    refine Wp.drop (List.sublist_cons_self _ _) (Wp.permS (List.perm_append_comm_assoc (lde c now lw' :: le2) [_, _] (gs2 ++ (es ++ S))) (Wp.drop (List.sublist_cons_self _ _) ?_))
    refine Wp.region ?_
    refine Yz 2 rfl ?_
    exact ⟨(i + 1, (v2, A2, gs2), now, lw', L2, le2), by simp only; omega, ⟨by simp only; omega, ho2, hA2, by simp only; omega, Int.le_refl _, hL2, hoL2⟩, .cons rfl (.cons rfl (.cons rfl (.cons rfl (.cons rfl (.cons rfl (.cons' rfl (int_eq (i64_inc (by omega))) (.nil _))))))), .refl _⟩
  rw [hf.2.2 i hlt (by omega)]
  refine Yz 1 rfl ?_
  refine Wp.cond rfl (fun cc7 => ?_) (fun cc7 => absurd (of_decide_eq_false cc7) (by exact fun h => h rfl))
  have cc7 := of_decide_eq_true cc7
  refine Wp.exit ?_
  refine Wp.drop (List.sublist_cons_self _ _) ?_
  refine Wp.region ?_
  refine Yz 2 rfl ?_
  exact ⟨(i + 1, (v, A, gs), ln, lw, L1, le1), by simp only; omega, ⟨by simp only; omega, hoA, ⟨by simp only; omega, ha2, fun h => ha3 (by simp only at h; omega)⟩, hln0, hln1, hL1, hoL⟩, .cons rfl (.cons rfl (.cons rfl (.cons rfl (.cons rfl (.cons rfl (.cons' rfl (int_eq (i64_inc (by omega))) (.nil _))))))), .refl _⟩
 have c1 := of_decide_eq_false c1
 obtain rfl : i = 4 := by omega
 obtain ⟨va, vc, rfl⟩ := hoA.reads.form
 refine Wp.exit ?_
 refine Yg 2 rfl ?_
 refine OWp.g rfl rfl (Gives.build rfl rfl) ?_
 refine OWp.step rfl (Step.call rfl rfl rfl rfl rfl rfl ((csignAckC ho (fun x h => .tail _ (List.mem_append_right _ (List.mem_append_right _ (List.mem_append_right _ (hR x h))))) hq (hoA.reads.mono fun x h => .tail _ (List.mem_append_right _ (List.mem_append_left _ h))) (fun a m d hd => own_cap hoA hd) (by omega) ha2 ?_)))
 refine Yz 4 rfl ?_
 refine Yn 5 rfl ?_
 refine Wp.ret ⟨trivial, _, ⟨_, _, rfl, rfl, _, _, rfl, rfl, _, _, rfl, rfl, rfl⟩, ?_⟩
 exact ⟨_, cle c qv nx now many (seq + 1) dry :: (lde c ln lw :: (le1 ++ S)), .refl _, .cons_cons _ (.cons_cons _ ((List.Sublist.refl _).append ((List.sublist_append_right _ _).trans (List.sublist_append_right _ _)))), H A ln lw L1 le1 ⟨ha1, ha2, ha3⟩ hln0 hln1 hL1 hoL⟩
end
end Go.Proofs.D

/- What a tick sends, by kinds: packets, and pulls of growing numbers. -/
namespace Go.Proofs.D
open Go.Lg Go.Sha Go.Hd Go.Cv
open Go.Proofs.C (Hop hopP hopB parse pathE encB tp word TIn Nd ndc St stc TownOk HostOf IsHost wayR mayP TownOk belowR WayIn LooseOf HomeOf NodesIn)
open Go.Cl (first firstOf needs)
set_option maxRecDepth 100000
def nP (l : List Snt) : Nat := l.countP fun y => y.2.1 == 3
attribute [local irreducible] wayR packR hmac
theorem doT_pack {c : Ck} {x : Cs} {kind : Nat} (h : kind < 3) : ∃ t, doT c x kind = packB t := by
 rcases (show kind = 0 ∨ kind = 1 ∨ kind = 2 by omega) with rfl | rfl | rfl
 ·show ∃ t, payT c x.k x.q = packB t
  cases x.q with
  | nil => exact ⟨_, rfl⟩
  | cons p r => exact ⟨_, rfl⟩
 ·exact ⟨_, rfl⟩
 ·exact ⟨_, rfl⟩
theorem runT_pack {c : Ck} {to : Nat} : ∀ (f : Nat) (x : Cs), ∀ y ∈ (runT c to f x).1, y.2.1 < 3 → ∃ t, y.2.2 = packB t
 | 0, _, _, h, _ => nomatch h
 | f + 1, x, y, hy, h3 => by
  rw [runT] at hy
  split at hy
  ·cases hy
  ·split at hy
   ·cases hy
   ·rcases List.mem_cons.1 hy with rfl | hy
    ·exact doT_pack h3
    ·exact runT_pack f _ y hy h3
theorem nP_cons (y : Snt) (l : List Snt) : nP (y :: l) = nP l + (if y.2.1 = 3 then 1 else 0) := by
 unfold nP
 rw [List.countP_cons]
 by_cases h : y.2.1 = 3 <;> simp [h]
theorem runT_seq {c : Ck} {to : Nat} : ∀ (f : Nat) (x : Cs), (runT c to f x).2.seq = x.seq + nP (runT c to f x).1
 | 0, _ => rfl
 | f + 1, x => by
  rw [runT]
  split
  ·rfl
  ·split
   ·rfl
   ·simp only
    rw [runT_seq f (nextS c x), nP_cons]
    show (if first x.nx = 3 then x.seq + 1 else x.seq) + _ = _
    split
    ·simp_all; omega
    ·simp_all
theorem runT_pull {c : Ck} {to : Nat} : ∀ (f : Nat) (x : Cs) (i : Nat) (h : i < (runT c to f x).1.length), (runT c to f x).1[i].2.1 = 3 → (runT c to f x).1[i].2.2 = pullB c.user (x.seq + nP ((runT c to f x).1.take (i + 1))) (pullT c.key c.user (x.seq + nP ((runT c to f x).1.take (i + 1))))
 | 0, _, _, h, _ => nomatch h
 | f + 1, x, i, h, h3 => by
  obtain ⟨r, hr⟩ : ∃ r, r = runT c to (f + 1) x := ⟨_, rfl⟩
  have hr2 := hr
  simp only [← hr] at h h3 ⊢
  rw [runT] at hr
  split at hr
  ·subst hr; exact nomatch h
  ·split at hr
   ·subst hr; exact nomatch h
   ·subst hr
    cases i with
    | zero =>
     simp only [List.getElem_cons_zero] at h3 ⊢
     rw [List.take_succ_cons, List.take_zero, nP_cons]
     simp only [h3]
     rw [if_pos trivial]
     rfl
    | succ i =>
     simp only [List.getElem_cons_succ] at h3 ⊢
     have ih := runT_pull f (nextS c x) i (by simpa using h) h3
     rw [ih, List.take_succ_cons, nP_cons]
     have e : (nextS c x).seq = x.seq + (if first x.nx = 3 then 1 else 0) := by
      show (if first x.nx = 3 then x.seq + 1 else x.seq) = _
      split <;> rfl
     rw [e]
     have e2 : ∀ n, x.seq + (if first x.nx = 3 then 1 else 0) + n = x.seq + (n + (if first x.nx = 3 then 1 else 0)) := fun n => by omega
     rw [e2]
theorem nP_take {l : List Snt} {i : Nat} (h : i < l.length) : nP (l.take (i + 1)) = nP (l.take i) + (if l[i].2.1 = 3 then 1 else 0) := by
 rw [List.take_succ_eq_append_getElem h]
 unfold nP
 rw [List.countP_append, List.countP_cons, List.countP_nil]
 by_cases h : l[i].2.1 = 3 <;> simp [h]
theorem nP_le (l : List Snt) (i : Nat) : nP (l.take i) ≤ nP l := (List.take_sublist i l).countP_le
theorem runT_lnow {c : Ck} {to : Nat} : ∀ (f : Nat) (x : Cs), x.lnow ≤ (to : Int) → (runT c to f x).2.lnow ≤ (to : Int)
 | 0, _, h => h
 | f + 1, x, h => by
  rw [runT]
  split
  ·exact h
  ·rename_i h1
   split
   ·exact h
   ·refine runT_lnow f (nextS c x) ?_
    show (if first x.nx = 2 then ((atN x : Nat) : Int) else x.lnow) ≤ _
    split
    ·have : ¬ to < atN x := fun h => h1 (.inr h)
     omega
    ·exact h
section
variable {B : Nat} {S : Ents} {Q : Value → Ents → Prop}
theorem decPullE {t tag : List UInt8} {user seq : Nat} (ht : t = pullB user seq tag) (hu : user < 64) (h1 : 1 ≤ seq) (h2 : seq ≤ 2147483647) (hl : tag.length = 32) (H : Q (.tuple #[.agg (mlc 2 user seq [] tag (.slice none 0 0) (.slice none 0 0)).toArray, .int .i64 0]) S) : CallWp Tryz.prog B 15 #[.string (str t)] Q S := by
 subst ht
 refine decWhoC (k := 2) (r := tag) (tag := tag) (l := []) (ids := []) hu h1 h2 (.inl ⟨rfl, rfl, hl, rfl, rfl⟩) ?_
 intro sv iv es fs _ _ g1 g2
 obtain ⟨rfl, rfl⟩ := g1 (by decide)
 obtain ⟨rfl, rfl⟩ := g2 (by decide)
 exact H
theorem decPackE {t text : List UInt8} (ht : t = packB text) (hl : t.length = 505) (H : Q (.tuple #[.agg (mlc 1 0 0 text [] (.slice none 0 0) (.slice none 0 0)).toArray, .int .i64 0]) S) : CallWp Tryz.prog B 15 #[.string (str t)] Q S := by
 subst ht
 exact decPackC (by simpa [packB] using hl) H
theorem decAckE {tag : List UInt8} {user seq : Nat} {ids : List (List UInt8)} (hu : user < 64) (h1 : 1 ≤ seq) (h2 : seq ≤ 2147483647) (hl : tag.length = 32) (h4 : ids.length ≤ 4) (hid : ∀ s ∈ ids, idP s) (H : ∀ iv fs, Lg.Own B 9 1 iv ids.length (strs ids) fs → Q (.tuple #[.agg (mlc 4 user seq [] tag (.slice none 0 0) iv).toArray, .int .i64 0]) (fs ++ S)) : CallWp Tryz.prog B 15 #[.string (str (ackB user seq tag ids))] Q S := by
 rw [show ackB user seq tag ids = mailB 4 user seq (tag ++ (ids.flatten ++ List.replicate (64 - ids.flatten.length) 0)) by simp [ackB, mailB, whoB, seqB]]
 refine decWhoC (k := 4) (tag := tag) (l := []) (ids := ids) hu h1 h2 (.inr (.inr ⟨rfl, rfl, hl, rfl, h4, hid⟩)) ?_
 intro sv iv es fs _ hoi g1 _
 obtain ⟨rfl, rfl⟩ := g1 (by decide)
 exact H iv fs hoi
end
def mnA : List Int := [200, 200, 200, 0]
theorem mnA_may : ∀ i, mayP 255 [mnA.getD i 0] := getD_all (p := fun m => mayP 255 [m]) (mayP_of (by decide) (by decide) (by decide) (by decide)) (fun x hx => by
 simp only [mnA, List.mem_cons, List.mem_nil_iff, or_false] at hx
 rcases hx with rfl | rfl | rfl | rfl <;> exact mayP_of (by decide) (by decide) (by decide) (by decide))
theorem strs_flat25 : ∀ l : List (List UInt8), (l.flatMap fun s => [Value.string (str s)]) = strs l
 | [] => rfl
 | a :: l => by rw [List.flatMap_cons, strs_flat25 l]; rfl
theorem rdStrs25 {S : Ents} {v : Value} (h : Rd Tryz.prog S 49 [v]) : ∃ l : List (List UInt8), Reads S 1 v l.length (strs l) ∧ l.length ≤ 8796093022080 ∧ ∀ s ∈ l, s.length + 5000 ≤ big := by
 obtain ⟨l, hr, hw, _, hp⟩ := h.rows (f := fun s : List UInt8 => [Value.string (str s)]) (p := fun s => s.length + 5000 ≤ big) Tryz.underlying49 (sz := 1) rfl (fun r hr => by
  obtain ⟨s, hs, hw⟩ := hr.open_str Tryz.underlying9
  exact ⟨s, hs, by unfold reachBytes at hw; unfold big; omega⟩)
 rw [strs_flat25 l] at hr
 refine ⟨l, hr, ?_, hp⟩
 have : l.length * 16 ≤ reachBytes := hw
 unfold reachBytes at this; omega
theorem fill_nil : fillN [([], []), ([], []), ([], []), ([], [])] 0 := by
 refine ⟨Nat.zero_le _, fun _ _ h => by omega, fun i h _ => ?_⟩
 rcases i with _ | _ | _ | _ | i
 ·rfl
 ·rfl
 ·rfl
 ·rfl
 ·simp at h; omega
theorem fill_set {l : List Slot} {n : Nat} {s : List UInt8} (hf : fillN l n) (hn : n < l.length) (hs : idP s) : fillN (l.set n (s, [])) (n + 1) := by
 obtain ⟨_, h2, h3⟩ := hf
 refine ⟨by rw [List.length_set]; omega, fun i h hi => ?_, fun i h hi => ?_⟩
 ·rw [List.getElem_set]
  split
  ·exact ⟨hs, Nat.zero_le _⟩
  ·exact h2 i (by simpa using h) (by omega)
 ·rw [List.getElem_set, if_neg (by omega)]
  exact h3 i (by simpa using h) (by omega)
theorem text_set {l : List Slot} {n : Nat} {s : List UInt8} (ht : ∀ x ∈ l, x.2 = []) : ∀ x ∈ l.set n (s, []), x.2 = [] := by
 intro x hx
 rcases List.mem_or_eq_of_mem_set hx with h | rfl
 ·exact ht x h
 ·rfl
theorem slots4 {l : List Slot} (h : l.length = 4) : ∃ a b c d, l = [a, b, c, d] := by
 match l, h with
 | [a, b, c, d], _ => exact ⟨a, b, c, d, rfl⟩
theorem sl_len8 {l : List Slot} (h : l.length = 4) : (l.flatMap slc).length = 8 := by
 obtain ⟨a, b, c, d, rfl⟩ := slots4 h
 rfl
theorem slot_wr {l : List Slot} {n o : Nat} {s : List UInt8} (h : l.length = 4) (ht : ∀ x ∈ l, x.2 = []) (hn : n < 4) (ho : o = n * 2) : wr (l.flatMap slc) o [.string (str s)] = (l.set n (s, [])).flatMap slc := by
 obtain ⟨⟨a1, a2⟩, ⟨b1, b2⟩, ⟨c1, c2⟩, ⟨d1, d2⟩, rfl⟩ := slots4 h
 obtain rfl : a2 = [] := ht _ (.head _)
 obtain rfl : b2 = [] := ht _ (.tail _ (.head _))
 obtain rfl : c2 = [] := ht _ (.tail _ (.tail _ (.head _)))
 obtain rfl : d2 = [] := ht _ (.tail _ (.tail _ (.tail _ (.head _))))
 subst ho
 rcases (show n = 0 ∨ n = 1 ∨ n = 2 ∨ n = 3 by omega) with rfl | rfl | rfl | rfl <;> rfl
end Go.Proofs.D
