/- What functions of the given program do, one after the other, told by that layer. -/
import Derived.Test.YtkjaehdfmmcgmaaGreatDoorMM5x7e77
import Derived.Test.YtkjaehdfmmcgmaaGreatDoorMWheelM
import Derived.Test.YtkjaehdfmmcgmaaGreatDoorLgM3x86f8
/- A log is read again. -/
namespace Go.Proofs.D
open Go.Lg Go.Sha Go.Hd Go.Cv Go.Mx
set_option maxRecDepth 100000
theorem rest_step {D : List UInt8} {at_ : Nat} (h : 1 ≤ at_) : (D.drop 64).take (64 * at_) = (D.drop 64).take (64 * (at_ - 1)) ++ secU D at_ := by
 have e : 64 * at_ = 64 * (at_ - 1) + 64 := by omega
 unfold secU
 rw [e, List.take_add, List.drop_drop]
 congr 3
 omega
theorem used_app : ∀ (a b : List (List UInt8)), usedN (a ++ b) = usedN a + usedN b
 | [], b => by simp [usedN]
 | x :: a, b => by rw [List.cons_append, usedN, usedN, used_app]; omega
theorem used_drop (ts : List (List UInt8)) (i : Nat) : usedN (ts.drop i) ≤ usedN ts := by
 have := used_app (ts.take i) (ts.drop i)
 rw [List.take_append_drop] at this
 omega
theorem used_take (ts : List (List UInt8)) {i : Nat} (h : i < ts.length) : usedN (ts.take (i + 1)) = usedN (ts.take i) + secN ts[i] := by
 rw [List.take_succ_eq_append_getElem h, used_snoc]
theorem used_le (ts : List (List UInt8)) (i : Nat) : usedN (ts.take i) ≤ usedN ts := by
 have := used_app (ts.take i) (ts.drop i)
 rw [List.take_append_drop] at this
 omega
theorem long_eq {n : Nat} (h : n ≤ 2000) : bits .or .i64 (IntKind.i64.wrap ((IntKind.i64.wrap ((UInt8.ofNat (n / 256)).toNat : Int)) * 2 ^ (min 8 IntKind.i64.bits))) (IntKind.i64.wrap ((UInt8.ofNat n).toNat : Int)) = (n : Int) := by
 have e1 : IntKind.i64.wrap ((UInt8.ofNat (n / 256)).toNat : Int) = ((n / 256 : Nat) : Int) := by
  rw [UInt8.toNat_ofNat', i64_id] <;> omega
 rw [e1]
 exact sq_or (by omega) rfl
section
variable {B : Nat} {S R : Ents} {Q : Value → Ents → Prop} {pl pd pr total n size : Nat} {ts : List (List UInt8)} {W : Ents}
theorem prefixC {s p : List UInt8} (H : Q (.bool (decide (p.length ≤ s.length ∧ s.take p.length = p))) S) : CallWp Tryz.prog B 182 #[.string (str s), .string (str p)] Q S := by
 refine Yx (args := [_, _]) Tryz.func182 Tryz.ntmps182 ?_
 refine Yn 1 rfl ?_
 refine Yg 6 rfl ?_
 refine OWp.part 10 rfl (fun c1 => ?_) (fun c1 => ?_)
 ·have c1 := of_decide_eq_true c1
  refine Ye 3 rfl ?_
  refine OWp.g rfl rfl (Gives.sliceStr (l := 0) (h' := p.length) rfl rfl rfl rfl ⟨_, _, rfl, rfl⟩ (by omega) (by omega)) ?_
  refine Yz 4 rfl ?_
  refine Wp.ret ⟨trivial, _, ⟨_, _, rfl, rfl, rfl⟩, ?_⟩
  exact (congrArg (fun b => Q (.bool b) S) (show decide (List.take (p.length - 0) (List.drop 0 s) = p) = decide (p.length ≤ s.length ∧ s.take p.length = p) by rw [Nat.sub_zero, List.drop_zero]; exact decide_eq_decide.2 ⟨fun h => ⟨by omega, h⟩, fun h => h.2⟩)).mpr H
 have c1 := of_decide_eq_false c1
 refine Yz 8 rfl ?_
 refine Wp.ret ⟨trivial, _, ⟨_, _, rfl, rfl, rfl⟩, ?_⟩
 rw [decide_eq_false (fun h => c1 (by omega))] at H
 exact H
theorem hasPrefixC {s p : List UInt8} (h1 : p.length ≤ s.length) (h2 : s.take p.length = p) (H : Q (.bool true) S) : CallWp Tryz.prog B 138 #[.string (str s), .string (str p)] Q S := by
 refine Yx (args := [_, _]) Tryz.func138 Tryz.ntmps138 ?_
 refine Yn 1 rfl ?_
 refine Yg 2 rfl ?_
 refine Yc rfl rfl (prefixC ?_)
 refine Yz 1 rfl ?_
 refine Wp.ret ⟨trivial, _, ⟨_, _, rfl, rfl, rfl⟩, ?_⟩
 rw [decide_eq_true (show p.length ≤ s.length ∧ s.take p.length = p from ⟨h1, h2⟩)]
 exact H
set_option maxHeartbeats 2000000 in
theorem lloadC (hk : KsIn S) (hB : B ≤ pl) (h : DkIn B pd pr total (diskM total ts) n W) (h2 : 2 ≤ size) (hs : 2 * size ≤ total) (hu : usedN ts + 1 ≤ size) (h5 : ∀ t ∈ ts, 1 ≤ t.length ∧ t.length ≤ 2000)
  (H : ∀ W', LoIn B pl pd pr size total ts n W' → Q (.int .i64 0) (W' ++ S)) :
  CallWp Tryz.prog B 102 #[pt pl] Q (lgeM pl pd 0 size 1 (markN 1) 1 (.slice none 0 0) :: (W ++ S)) := by
 have ht2 := h.2.2.2.1
 have hDl := h.len
 refine subRet ?_
 refine Yx (args := [_]) Tryz.func102 Tryz.ntmps102 ?_
 refine Yn 1 rfl ?_
 refine Yq ?_
 refine Ya rfl rfl rfl rfl fun L3 hBL3 hLL3 => ?_
 refine OWp.nil ?_
 refine Wp.seq ?_
 refine Yn 1 rfl ?_
 refine Wp.block ?_
 refine Wp.loopS (α := Nat × Ents) (fun z => size - z.1) (fun z => [(0, pt pl), (3, pt L3), (4, .int .i64 (z.1 : Int))]) (fun z => z.2 ++ (lgeM pl pd 0 size 1 (markN 1) 1 (.slice none 0 0) :: (W ++ S))) (fun z => 1 ≤ z.1 ∧ z.1 ≤ size ∧ Bd B L3 (((diskM total ts).drop 64).take (64 * (z.1 - 1))) z.2) (1, [(L3, cel [.pointer none, .slice none 0 0] 169)]) ?_ (.refl _) ⟨Nat.le_refl _, (show 1 ≤ size by omega), hBL3, .pointer none, .slice none 0 0, [], .inl rfl, rfl, OwnF.nil _ _⟩ ?_
 ·exact .cons rfl (.cons rfl (.cons rfl (.nil _)))
 rintro ⟨at_, es⟩ ⟨ha1, ha2, hb⟩
 simp only at ha1 ha2 hb ⊢
 refine Wp.seq ?_
 refine Yg 5 rfl ?_
 refine Yl (List.mem_append_right _ (.head _)) ?_
 refine Yz 1 rfl ?_
 refine Wp.cond rfl (fun c1 => ?_) (fun c1 => ?_)
 ·have c1 := of_decide_eq_true c1
  refine Wp.skip ?_
  refine Wp.seq ?_
  refine Wp.block ?_
  refine Yg 3 rfl ?_
  refine Yl (List.mem_append_right _ (.head _)) ?_
  refine Ye 1 rfl ?_
  refine Yc rfl rfl (lreadC (frm := 0) (size := size) (at_ := at_) h (fun x hx => List.mem_append_right _ (.tail _ (List.mem_append_left _ hx))) (by omega) ?_)
  refine Yz 5 rfl ?_
  refine Wp.seq ?_
  refine Yn 2 rfl ?_
  refine Cu rfl (by exact fun h => h rfl) fun cc1 => ?_
  refine Wp.skip ?_
  refine Wp.region ?_
  refine Ye 1 rfl ?_
  refine Yc rfl rfl (bWriteC hb (by rw [List.length_take, Nat.zero_add, secU_len (by omega)]; omega) ?_)
  intro es' hb'
  rw [Nat.zero_add, ← rest_step ha1] at hb'
  refine OWp.nil ?_
  refine Wp.region ?_
  refine Yz 3 rfl ?_
  exact ⟨(at_ + 1, es'), by simp only; omega, ⟨by simp only; omega, by simp only; omega, by simp only [Nat.add_sub_cancel]; exact hb'⟩, .cons rfl (.cons rfl (.cons' rfl (int_eq (i64_inc (by omega))) (.nil _))), .refl _⟩
 have c1 := of_decide_eq_false c1
 have hae : size = at_ := by omega
 subst hae
 rw [disk_rest hu (by omega)] at hb
 obtain ⟨k0, hk0⟩ : ∃ k, k = size - 1 - usedN ts := ⟨_, rfl⟩
 rw [← hk0] at hb
 refine Wp.exit ?_
 refine Wp.seqS (α := Value × Ents) (fun _ => [(0, pt pl)]) (fun z => lgeM pl pd 0 size 1 (mks (markN 1) ts) (1 + usedN ts) z.1 :: (z.2 ++ (W ++ S))) (fun z => Lg.Own B 9 1 z.1 ts.length (strs ts) z.2) ?_ ?_
 ·skip
  refine Yq ?_
  refine Yc rfl rfl (bStringC hb ?_)
  intro es2 _
  refine Yz 1 rfl ?_
  show Wp _ _ _ _ _ _ _
  refine Wp.drop (S' := lgeM pl pd 0 size 1 (markN 1) 1 (.slice none 0 0) :: (W ++ S)) (List.sublist_append_right _ _) ?_
  refine Wp.block ?_
  refine Wp.loopS (α := Nat × Value × Ents) (fun z => ts.length - z.1) (fun z => [(0, pt pl), (7, .string (str (restM (mks (markN 1) (ts.take z.1)) (ts.drop z.1) k0)))]) (fun z => lgeM pl pd 0 size 1 (mks (markN 1) (ts.take z.1)) (1 + usedN (ts.take z.1)) z.2.1 :: (z.2.2 ++ (W ++ S))) (fun z => z.1 ≤ ts.length ∧ Lg.Own B 9 1 z.2.1 (ts.take z.1).length (strs (ts.take z.1)) z.2.2) (0, .slice none 0 0, []) ?_ (.refl _) ⟨Nat.zero_le _, Own.nil _ _ _⟩ ?_
  ·exact .cons rfl (.cons rfl (.nil _))
  rintro ⟨i, lv, les⟩ ⟨hi, hl⟩
  simp only at hi hl ⊢
  refine Wp.seq ?_
  refine Yq ?_
  by_cases hlt : i < ts.length
  ·skip
   rw [List.drop_eq_getElem_cons hlt]
   obtain ⟨f1, f2, f3, f4⟩ := restM_front (m := mks (markN 1) (ts.take i)) (t := ts[i]) (ts := ts.drop (i + 1)) (k := k0)
   obtain ⟨g1, g2⟩ := h5 _ (List.getElem_mem hlt)
   have hrl := restM_len (mks (markN 1) (ts.take i)) (ts[i] :: ts.drop (i + 1)) k0
   have hpre := restM_pre (m := mks (markN 1) (ts.take i)) (t := ts[i]) (ts := ts.drop (i + 1)) (k := k0)
   have hdrop := restM_drop (m := mks (markN 1) (ts.take i)) (t := ts[i]) (ts := ts.drop (i + 1)) (k := k0)
   have hrb := recB_len (mks (markN 1) (ts.take i)) ts[i]
   have hut := used_take ts hlt
   have hul : usedN (ts[i] :: ts.drop (i + 1)) ≤ usedN ts := by rw [← List.drop_eq_getElem_cons hlt]; exact used_drop ts i
   have hug : usedN (ts[i] :: ts.drop (i + 1)) = secN ts[i] + usedN (ts.drop (i + 1)) := rfl
   generalize hrest : restM (mks (markN 1) (ts.take i)) (ts[i] :: ts.drop (i + 1)) k0 = rest at *
   refine Yz 3 rfl ?_
   refine Cv rfl (by omega) fun cc2 => ?_
   refine Wp.skip ?_
   refine Wp.block ?_
   refine Wp.seq (Wp.regionDraw [0, 1, 2, 3, 4, 5, 6, 7, 8] [] rfl (by decide +kernel) ?_)
   refine DWp.evs 1 rfl ?_
   refine DWp.g rfl rfl rfl rfl (Gives.indexStr (b := UInt8.ofNat (ts[i].length / 256)) rfl rfl rfl rfl (by omega) f1) ?_
   refine DWp.evs 3 rfl ?_
   refine DWp.g rfl rfl rfl rfl (Gives.indexStr (b := UInt8.ofNat ts[i].length) rfl rfl rfl rfl (by omega) f2) ?_
   refine DWp.evs 3 rfl ?_
   refine DWp.nil ?_
   refine Wp.seq ?_
   rw [long_eq g2]
   refine Yg 3 rfl ?_
   refine Dt 49 rfl (by omega) fun cc3 => ?_
   refine Ye 4 rfl ?_
   refine Dt 53 rfl (by omega) fun cc4 => ?_
   refine Yz 6 rfl ?_
   refine Ct rfl (by rw [i64_id] <;> omega) fun cc5 => ?_
   refine Wp.skip ?_
   refine Yg 3 rfl ?_
   refine OWp.g rfl rfl (Gives.sliceStr (l := 18) (h' := (18 + ts[i].length)) rfl rfl rfl ⟨_, _, rfl, rfl⟩ ⟨_, _, rfl, by rw [i64_id] <;> omega⟩ (by omega) (by omega)) ?_
   rw [show 18 + ts[i].length - 18 = ts[i].length by omega, f3]
   refine Yz 1 rfl ?_
   refine Yg 3 rfl ?_
   refine Yl m0 ?_
   refine Ye 1 rfl ?_
   refine Yc rfl rfl (recordC (KsIn_of hk fun x hx => .tail _ (List.mem_append_right _ (List.mem_append_right _ hx))) (mks_len _ (take16 _)) g2 ?_)
   refine Yz 5 rfl ?_
   refine Wp.seq ?_
   refine Yg 2 rfl ?_
   refine Yc rfl rfl (hasPrefixC (by omega) hpre ?_)
   refine Yz 1 rfl ?_
   refine Cn rfl ?_
   have hbl2 : ((recB (mks (markN 1) (ts.take i)) ts[i]).length : Int) = ((64 * secN ts[i] : Nat) : Int) := by rw [hrb]
   refine Wp.skip ?_
   refine Yg 5 rfl ?_
   refine Yc rfl rfl (tookC (m := secN ts[i]) hB hl (by have := used_le ts i; omega) (by rw [List.length_take]; have := used_ge ts; omega) hrb (by omega) ?_)
   intro lv2 les2 hl2
   refine OWp.nil ?_
   refine Wp.region ?_
   refine Ye 3 rfl ?_
   refine OWp.g rfl rfl (Gives.sliceStr (l := (recB (mks (markN 1) (ts.take i)) ts[i]).length) (h' := rest.length) rfl rfl rfl ⟨_, _, rfl, rfl⟩ rfl (by omega) (by omega)) ?_
   rw [show (rest.drop (recB (mks (markN 1) (ts.take i)) ts[i]).length).take (rest.length - (recB (mks (markN 1) (ts.take i)) ts[i]).length) = rest.drop (recB (mks (markN 1) (ts.take i)) ts[i]).length from List.take_of_length_le (by rw [List.length_drop]; exact Nat.le_refl _), hdrop]
   refine Yz 1 rfl ?_
   refine ⟨(i + 1, lv2, les2), by simp only; omega, ⟨by simp only; omega, ?_⟩, ?_, ?_⟩
   ·simp only
    rw [List.take_succ_eq_append_getElem hlt]
    exact hl2
   ·simp only
    rw [List.take_succ_eq_append_getElem hlt, mks_snoc]
    exact .cons rfl (.cons rfl (.nil _))
   ·simp only
    rw [List.take_succ_eq_append_getElem hlt, mks_snoc, used_snoc, ← Nat.add_assoc]
  obtain rfl : i = ts.length := by omega
  rw [List.take_length] at hl
  rw [List.take_length, List.drop_length, restM_nil]
  refine Yz 3 rfl ?_
  refine Wp.cond rfl (fun d1 => ?_) (fun d1 => ?_)
  ·have d1 := of_decide_eq_true d1
   have hk1 : 1 ≤ k0 := by rw [zer_len] at d1; omega
   have hz : ∀ j : Nat, j < 2 → (zer (64 * k0))[j]? = some 0 := fun j hj => by unfold zer; rw [List.getElem?_replicate, if_pos (by omega)]
   refine Wp.skip ?_
   refine Wp.block ?_
   refine Wp.seq (Wp.regionDraw [0, 1, 2, 3, 4, 5, 6, 7, 8] [] rfl (by decide +kernel) ?_)
   refine DWp.evs 1 rfl ?_
   refine DWp.g rfl rfl rfl rfl (Gives.indexStr (b := (0 : UInt8)) rfl rfl rfl rfl (by decide) (hz 0 (by decide))) ?_
   refine DWp.evs 3 rfl ?_
   refine DWp.g rfl rfl rfl rfl (Gives.indexStr (b := (0 : UInt8)) rfl rfl rfl rfl (by decide) (hz 1 (by decide))) ?_
   refine DWp.evs 3 rfl ?_
   refine DWp.nil ?_
   refine Wp.seq ?_
   refine Yg 3 rfl ?_
   refine Dv 49 rfl (by decide) fun cc6 => ?_
   refine Yz 10 rfl ?_
   refine Cy rfl ?_
   refine Wp.exit ?_
   exact ⟨(lv, les), hl, .cons rfl (.nil _), .refl _⟩
  have d1 := of_decide_eq_false d1
  refine Wp.exit ?_
  exact ⟨(lv, les), hl, .cons rfl (.nil _), .refl _⟩
 rintro ⟨lv, les⟩ hl
 simp only at hl ⊢
 obtain ⟨va, vc, rfl⟩ := hl.reads.form
 refine Wp.seq (Wp.regionDraw [0, 1, 2, 3, 4, 5, 6, 7, 8, 9] [8] rfl (by decide +kernel) ?_)
 refine DWp.evs 3 rfl ?_
 refine Yd (show lgeM pl pd 0 size 1 (mks (markN 1) ts) (1 + usedN ts) (.slice va ts.length vc) ∈ _ from .head _) ?_
 refine DWp.evs 3 rfl ?_
 refine Yd (show lgeM pl pd 0 size 1 (mks (markN 1) ts) (1 + usedN ts) (.slice va ts.length vc) ∈ _ from .head _) ?_
 refine DWp.stepGrow rfl rfl rfl (Step.call rfl rfl rfl rfl rfl rfl ((lcleanC (frm := 0) (size := size) (fr := 1 + usedN ts) h (fun x hx => .tail _ (List.mem_append_right _ (List.mem_append_left _ hx))) (by omega) (fun j hj hj2 => by rw [Nat.zero_add]; exact disk_free (by omega) (by omega)) ?_)))
 refine ⟨fun _ hy => hy, ?_⟩
 refine DWp.evs 1 rfl ?_
 refine DWp.nil ?_
 refine Wp.ret ⟨trivial, _, ⟨_, _, rfl, rfl, rfl⟩, ?_⟩
 have hh := H (lgeM pl pd 0 size 1 (mks (markN 1) ts) (1 + usedN ts) (.slice va ts.length vc) :: (les ++ W)) ⟨hB, h2, hs, hu, fun t ht => (h5 t ht).2, _, les, W, hl, h, rfl⟩
 rw [List.cons_append, List.append_assoc] at hh
 exact ⟨_, _, .refl _, .refl _, hh⟩
end
end Go.Proofs.D

/- A log is opened. -/
namespace Go.Proofs.D
open Go.Lg Go.Sha Go.Hd Go.Cv Go.Mx
set_option maxRecDepth 100000
theorem head_gen : ((headB 1).drop 4).take 4 = be4B 1 := rfl
theorem zer_gen : ((zer 64).drop 4).take 4 = be4B 0 := by decide
/-- What a log that is opened has read of its heads. -/
def lgc0 (pd size g : Nat) : List Value := if g = 0 then [.pointer none, .int .i64 0, .int .i64 0, .int .i64 0, .string (str []), .int .i64 1, .slice none 0 0] else [pt pd, .int .i64 0, .int .i64 (size : Int), .int .i64 1, .string (str []), .int .i64 1, .slice none 0 0]
theorem half_eq {total size : Nat} (h : size = total / 2) (h2 : total ≤ 1024) : IntKind.i64.wrap ((total : Int).tdiv (Int.ofNat (1 + 1))) = (size : Int) := by
 rw [show Int.ofNat (1 + 1) = 2 from rfl, Int.tdiv_eq_ediv_of_nonneg (by omega), i64_id] <;> omega
section
variable {B : Nat} {S R : Ents} {Q : Value → Ents → Prop} {pd pr total n size : Nat} {ts : List (List UInt8)} {D : List UInt8} {W : Ents}
theorem sizeC (h : DkIn B pd pr total D n W) (hs : ∀ x ∈ W, x ∈ S) (H : Q (.int .i64 (total : Int)) S) : CallWp Tryz.prog B 97 #[pt pd] Q S := by
 obtain ⟨h1, h2, h3, h4, h5, wv, cells, es, h6, ho, rfl⟩ := h
 obtain ⟨wa, wc, rfl⟩ := ho.reads.form
 refine Yx (args := [_]) Tryz.func97 Tryz.ntmps97 ?_
 refine Yn 1 rfl ?_
 refine Yg 3 rfl ?_
 refine Yl (hs _ (.head _)) ?_
 refine Yz 2 rfl ?_
 refine Wp.ret ⟨trivial, _, ⟨_, _, rfl, rfl, rfl⟩, ?_⟩
 exact H
set_option maxHeartbeats 4000000 in
theorem lopenC (hk : KsIn S) (h : DkIn B pd pr total D n W) (hc : (D = zer (64 * total) ∧ ts = [] ∧ n = 0) ∨ D = diskM total ts) (hsz : size = total / 2) (h2 : 2 ≤ size) (hu : usedN ts + 1 ≤ size) (h5 : ∀ t ∈ ts, 1 ≤ t.length ∧ t.length ≤ 2000)
  (H : ∀ pl W', LoIn B pl pd pr size total ts n W' → Q (.tuple #[pt pl, .int .i64 0]) (W' ++ S)) :
  CallWp Tryz.prog B 49 #[pt pd] Q (W ++ S) := by
 have ht2 := h.2.2.2.1
 have hdl := h.len
 obtain ⟨g, hg1, hs0, hg0, hgc⟩ : ∃ g : Nat, g ≤ 1 ∧ ((secU D 0).drop 4).take 4 = be4B g ∧ (g = 0 ∨ secU D 0 = headB g) ∧ ((g = 0 ∧ D = zer (64 * total) ∧ ts = [] ∧ n = 0) ∨ (g = 1 ∧ D = diskM total ts)) := by
  rcases hc with ⟨rfl, rfl, rfl⟩ | rfl
  ·exact ⟨0, by decide, by rw [zer_sec (by omega)]; exact zer_gen, .inl rfl, .inl ⟨rfl, rfl, rfl, rfl⟩⟩
  ·exact ⟨1, by decide, by rw [disk_head]; exact head_gen, .inr (disk_head _ _), .inr ⟨rfl, rfl⟩⟩
 have hs1 : secU D size = zer 64 := by
  rcases hc with ⟨rfl, rfl, rfl⟩ | rfl
  ·exact zer_sec (by omega)
  ·exact disk_free (by omega) (by omega)
 refine subRet ?_
 refine Yx (args := [_]) Tryz.func49 Tryz.ntmps49 ?_
 refine Yn 2 rfl ?_
 refine Wp.seq ?_
 refine Yn 2 rfl ?_
 refine Cn rfl ?_
 refine Wp.skip ?_
 refine Yg 1 rfl ?_
 refine Yc rfl rfl (sizeC h (fun x hx => List.mem_append_left _ hx) ?_)
 refine Yz 2 rfl ?_
 refine Wp.seq ?_
 rw [half_eq hsz ht2]
 refine Yn 2 rfl ?_
 refine Ct rfl (by omega) fun cc1 => ?_
 refine Wp.skip ?_
 refine Yq ?_
 refine OWp.g rfl rfl (Gives.build rfl rfl) ?_
 refine Yb rfl rfl rfl rfl fun L20 hBL20 hLL20 => ?_
 refine Yz 1 rfl ?_
 refine Wp.seq ?_
 refine Yn 1 rfl ?_
 refine Wp.block ?_
 refine Wp.loopS (α := Nat) (fun k => 2 - k) (fun k => [(0, pt pd), (4, .int .i64 (size : Int)), (5, pt L20), (21, .int .i64 (k : Int))]) (fun k => (L20, cel (lgc0 pd size (if k = 0 then 0 else g)) 203) :: (W ++ S)) (fun k => k ≤ 2) 0 ?_ (.refl _) (Nat.zero_le _) ?_
 ·exact .cons rfl (.cons rfl (.cons rfl (.cons rfl (.nil _))))
 intro k hk2
 refine Yn 1 rfl ?_
 refine Wp.seq ?_
 refine Wp.cond rfl (fun c1 => ?_) (fun c1 => ?_)
 ·have c1 := of_decide_eq_true c1
  refine Wp.skip ?_
  refine Wp.seq ?_
  refine Wp.block ?_
  refine Yq ?_
  rcases (show k = 0 ∨ k = 1 by omega) with rfl | rfl
  ·skip
   refine Yz 2 rfl ?_
   refine Yg 5 rfl ?_
   refine OWp.g rfl rfl (Gives.build rfl rfl) ?_
   refine Ya rfl rfl rfl rfl fun L7 hBL7 hLL7 => ?_
   refine OWp.step rfl (Step.storeAs 0 (hfc pd 0 size) rfl rfl rfl rfl rfl (by assumption) rfl (Unfz.zero _) rfl (Nat.le_of_ble_eq_true rfl) (by rw [show IntKind.i64.wrap (((0 : Nat) : Int) * (size : Int)) = 0 by rw [i64_id] <;> omega]; rfl) rfl ?_)
   refine OWp.nil ?_
   refine Yq ?_
   refine Yl m0 ?_
   refine Yc rfl rfl (lreadC (frm := 0) (size := size) (at_ := 0) h (fun x hx => .tail _ (.tail _ (List.mem_append_left _ hx))) (by omega) ?_)
   refine Yz 5 rfl ?_
   refine Wp.seq ?_
   refine Yn 2 rfl ?_
   refine Cu rfl (by exact fun h => h rfl) fun cc2 => ?_
   refine Wp.skip ?_
   refine Yg 1 rfl ?_
   refine Yc rfl rfl (genC (g := g) (KsIn_of hk fun x hx => .tail _ (.tail _ (List.mem_append_right _ hx))) (secU_len (by omega)) hs0 (by omega) hg0 ?_)
   refine Yz 1 rfl ?_
   refine Yg 4 rfl ?_
   refine Yl m1 ?_
   by_cases hg : g = 0
   ·skip
    subst hg
    refine Yz 1 rfl ?_
    refine Ct rfl (by decide) fun cc3 => ?_
    refine Wp.skip ?_
    refine Wp.drop (S' := (L20, cel (lgc0 pd size 0) 203) :: (W ++ S)) (List.sublist_cons_self _ _) ?_
    refine Wp.region ?_
    refine Yz 2 rfl ?_
    exact ⟨1, (show 2 - 1 < 2 - 0 by decide), (show 1 ≤ 2 by decide), .cons rfl (.cons rfl (.cons rfl (.cons' rfl (int_eq (show IntKind.i64.wrap (((0 : Nat) : Int) + 1) = ((1 : Nat) : Int) by decide)) (.nil _)))), .refl _⟩
   obtain rfl : g = 1 := by omega
   refine Yz 1 rfl ?_
   refine Cv rfl (by decide) fun cc4 => ?_
   refine Wp.region ?_
   refine Ye 2 rfl ?_
   refine Yl m0 ?_
   refine Ye 3 rfl ?_
   refine OWp.step rfl (Step.storeAs 1 ([pt pd, .int .i64 0, .int .i64 (size : Int), .int .i64 0, .string (str []), .int .i64 1, .slice none 0 0]) rfl rfl rfl rfl rfl (by assumption) rfl (Unfz.zero _) rfl (Nat.le_of_ble_eq_true rfl) rfl rfl ?_)
   refine Ye 2 rfl ?_
   refine OWp.step rfl (Step.storeAs 1 (lgc0 pd size 1) rfl rfl rfl rfl rfl (by assumption) rfl (Unfz.zero _) rfl (Nat.le_of_ble_eq_true rfl) rfl rfl ?_)
   refine OWp.nil ?_
   refine Wp.drop (S' := (L20, cel (lgc0 pd size 1) 203) :: (W ++ S)) (List.sublist_cons_self _ _) ?_
   refine Wp.region ?_
   refine Yz 2 rfl ?_
   exact ⟨1, (show 2 - 1 < 2 - 0 by decide), (show 1 ≤ 2 by decide), .cons rfl (.cons rfl (.cons rfl (.cons' rfl (int_eq (show IntKind.i64.wrap (((0 : Nat) : Int) + 1) = ((1 : Nat) : Int) by decide)) (.nil _)))), .refl _⟩
  refine Yz 2 rfl ?_
  refine Yg 5 rfl ?_
  refine OWp.g rfl rfl (Gives.build rfl rfl) ?_
  refine Ya rfl rfl rfl rfl fun L7 hBL7 hLL7 => ?_
  refine OWp.step rfl (Step.storeAs 0 (hfc pd size size) rfl rfl rfl rfl rfl (by assumption) rfl (Unfz.zero _) rfl (Nat.le_of_ble_eq_true rfl) (by rw [show IntKind.i64.wrap (((1 : Nat) : Int) * (size : Int)) = (size : Int) by rw [i64_id] <;> omega]; rfl) rfl ?_)
  refine OWp.nil ?_
  refine Yq ?_
  refine Yl m0 ?_
  refine Yc rfl rfl (lreadC (frm := size) (size := size) (at_ := 0) h (fun x hx => .tail _ (.tail _ (List.mem_append_left _ hx))) (by omega) ?_)
  refine Yz 5 rfl ?_
  refine Wp.seq ?_
  refine Yn 2 rfl ?_
  refine Cu rfl (by exact fun h => h rfl) fun cc5 => ?_
  rw [Nat.add_zero, hs1]
  refine Wp.skip ?_
  refine Yg 1 rfl ?_
  refine Yc rfl rfl (genC (g := 0) (KsIn_of hk fun x hx => .tail _ (.tail _ (List.mem_append_right _ hx))) (zer_len 64) zer_gen (by decide) (.inl rfl) ?_)
  by_cases hg : g = 0
  ·skip
   subst hg
   refine Yz 1 rfl ?_
   refine Yg 4 rfl ?_
   refine Yl m1 ?_
   refine Yz 1 rfl ?_
   refine Ct rfl (by decide) fun cc6 => ?_
   refine Wp.skip ?_
   refine Wp.drop (S' := (L20, cel (lgc0 pd size 0) 203) :: (W ++ S)) (List.sublist_cons_self _ _) ?_
   refine Wp.region ?_
   refine Yz 2 rfl ?_
   exact ⟨2, (show 2 - 2 < 2 - 1 by decide), (show 2 ≤ 2 by decide), .cons rfl (.cons rfl (.cons rfl (.cons' rfl (int_eq (show IntKind.i64.wrap (((1 : Nat) : Int) + 1) = ((2 : Nat) : Int) by decide)) (.nil _)))), .refl _⟩
  obtain rfl : g = 1 := by omega
  refine Yz 1 rfl ?_
  refine Yg 4 rfl ?_
  refine Yl m1 ?_
  refine Yz 1 rfl ?_
  refine Ct rfl (by decide) fun cc7 => ?_
  refine Wp.skip ?_
  refine Wp.drop (S' := (L20, cel (lgc0 pd size 1) 203) :: (W ++ S)) (List.sublist_cons_self _ _) ?_
  refine Wp.region ?_
  refine Yz 2 rfl ?_
  exact ⟨2, (show 2 - 2 < 2 - 1 by decide), (show 2 ≤ 2 by decide), .cons rfl (.cons rfl (.cons rfl (.cons' rfl (int_eq (show IntKind.i64.wrap (((1 : Nat) : Int) + 1) = ((2 : Nat) : Int) by decide)) (.nil _)))), .refl _⟩
 have c1 := of_decide_eq_false c1
 obtain rfl : k = 2 := by omega
 refine Wp.exit ?_
 refine Wp.seq ?_
 refine Yq ?_
 rcases hgc with ⟨rfl, rfl, rfl, rfl⟩ | ⟨rfl, rfl⟩
 ·skip
  refine Ye 3 rfl ?_
  refine Yl m0 ?_
  refine Yz 1 rfl ?_
  refine Cv rfl (by decide) fun cc8 => ?_
  refine Yg 2 rfl ?_
  refine OWp.g rfl rfl (Gives.build rfl rfl) ?_
  refine Yc rfl rfl (CallWp.permS (permBy [[(L20, cel (lgc0 pd size 0) 203)], W] S [0, 1] [1, 0] (by decide)) (lbeginC hk.cons h h2 (by omega) ?_))
  intro pl W' h'
  refine Yz 4 rfl ?_
  refine Wp.ret ⟨trivial, _, ⟨_, _, rfl, rfl, _, _, rfl, rfl, rfl⟩, ?_⟩
  exact ⟨_, _, .refl _, (List.Sublist.refl W').append (List.sublist_cons_self _ _), H pl W' h'⟩
 refine Ye 3 rfl ?_
 refine Yl m0 ?_
 refine Yz 1 rfl ?_
 refine Ct rfl (by decide) fun cc9 => ?_
 refine Wp.skip ?_
 refine Yg 4 rfl ?_
 refine Yl m0 ?_
 refine Yc rfl rfl (begunC (n := 1) (KsIn_of hk fun x hx => .tail _ (List.mem_append_right _ hx)) ?_)
 refine Ye 5 rfl ?_
 refine OWp.step rfl (Step.storeAs 0 (lgcM pd 0 size 1 (markN 1) 1 (.slice none 0 0)) rfl rfl rfl rfl rfl (by assumption) rfl (Unfz.zero _) rfl (Nat.le_of_ble_eq_true rfl) rfl rfl ?_)
 refine OWp.nil ?_
 refine Wp.seq ?_
 refine Yg 1 rfl ?_
 refine Yc rfl rfl (lloadC hk hBL20 h h2 (by omega) hu h5 ?_)
 intro W' h'
 refine Yz 1 rfl ?_
 refine Yn 2 rfl ?_
 refine Cu rfl (by exact fun h => h rfl) fun cc10 => ?_
 refine Wp.skip ?_
 refine Yn 3 rfl ?_
 refine Wp.ret ⟨trivial, _, ⟨_, _, rfl, rfl, _, _, rfl, rfl, rfl⟩, ?_⟩
 exact ⟨_, _, .refl _, .refl _, H L20 W' h'⟩
end
end Go.Proofs.D

/- Tags that were seen. -/
namespace Go.Proofs.D
open Go.Lg Go.Sha Go.Hd Go.Cv Go.Mx
set_option maxRecDepth 100000
def stc7 (pl : Nat) (most : Nat) (tv : Value) : List Value := [pt pl, .int .i64 (most : Int), .int .i64 0, .slice none 0 0, tv]
abbrev ste (ps pl most : Nat) (tv : Value) : Nat × Obj := (ps, cel (stc7 pl most tv) 153)
/-- A set of tags in memory: of the first epoch, in a log of its own. -/
def SeIn (B ps pd pr size total most : Nat) (tags : List (List UInt8)) (n : Nat) (W : Ents) : Prop := B ≤ ps ∧ tags.Nodup ∧ (∀ t ∈ tags, t.length = 16) ∧ ∃ pl tv tes Wl, Lg.Own B 9 1 tv tags.length (strs tags) tes ∧ LoIn B pl pd pr size total (tags.map putB) n Wl ∧ W = ste ps pl most tv :: (tes ++ Wl)
theorem put_lens {tags : List (List UInt8)} (h : ∀ t ∈ tags, t.length = 16) : ∀ t ∈ tags.map putB, 1 ≤ t.length ∧ t.length ≤ 2000 := by
 intro t ht
 obtain ⟨x, hx, rfl⟩ := List.mem_map.1 ht
 have := h x hx
 unfold putB
 rw [List.length_cons]
 omega
theorem nodup_take {l : List (List UInt8)} (h : l.Nodup) {i : Nat} (hi : i < l.length) : l[i] ∉ l.take i := by
 have h2 : (l.take (i + 1)).Nodup := h.sublist (List.take_sublist _ _)
 rw [List.take_succ_eq_append_getElem hi, List.nodup_append] at h2
 intro hm
 exact h2.2.2 _ hm _ (List.mem_singleton.2 rfl) rfl
section
variable {B : Nat} {S R : Ents} {Q : Value → Ents → Prop} {ps pl pd pr size total most n : Nat} {tags : List (List UInt8)} {tag : List UInt8} {tv : Value} {W : Ents}
theorem shasC (hm : ste ps pl most tv ∈ S) (hr : Reads S 1 tv tags.length (strs tags)) (hl : tags.length ≤ 4096) (H : Q (.bool (decide (tag ∈ tags))) S) : CallWp Tryz.prog B 79 #[pt ps, .string (str tag)] Q S := by
 obtain ⟨ta, tc, rfl⟩ := hr.form
 refine Yx (args := [_, _]) Tryz.func79 Tryz.ntmps79 ?_
 refine Yn 1 rfl ?_
 refine Yg 3 rfl ?_
 refine Yl hm ?_
 refine Ye 1 rfl ?_
 refine Yc rfl rfl (containsStrC (l := []) (Reads.nil _ _) (by decide) ?_)
 rw [decide_eq_false (show ¬ tag ∈ ([] : List (List UInt8)) from fun h => nomatch h)]
 refine Ye 1 rfl ?_
 refine Ye 3 rfl ?_
 refine Yl hm ?_
 refine Ye 1 rfl ?_
 refine Yc rfl rfl (containsStrC hr (by omega) ?_)
 refine Yz 2 rfl ?_
 refine Wp.ret ⟨trivial, _, ⟨_, _, rfl, rfl, rfl⟩, ?_⟩
 exact H
theorem sputC (H : Q (.string (str (putB tag))) S) (hl : tag.length ≤ 4096) : CallWp Tryz.prog B 81 #[.string (str tag)] Q S := by
 refine CallWp.dropRet ?_
 refine Yx (args := [_]) Tryz.func81 Tryz.ntmps81 ?_
 refine Yn 1 rfl ?_
 refine Yq ?_
 refine OWp.step rfl (Step.buildSlice rfl rfl rfl ?_); intro L3 hBL3 hLL3
 refine OWp.gives rfl rfl (Gives.bytesToStr (F := _) (l := [(84 : UInt8)]) (k := 1) rfl rfl rfl rfl rfl (Reads.row (k := 1) (sz := 1) (l := byteCells [84]) (.head _) (Nat.le_refl 1))) (fun _ h => h) ?_
 refine Ye 1 rfl ?_
 refine OWp.g rfl rfl (Gives.addStr rfl rfl rfl (by show 1 + _ ≤ 9223372036854775807; omega)) ?_
 refine Yz 1 rfl ?_
 refine Wp.ret ⟨trivial, _, ⟨_, _, rfl, rfl, rfl⟩, ?_⟩
 exact ⟨S, subl, H⟩
theorem stakeC {tes : Ents} (hB : B ≤ ps) (hl : Lg.Own B 9 1 tv tags.length (strs tags) tes) (hn : tag ∉ tags) (ht : tag.length = 16) (hm : tags.length ≤ 4096)
  (H : ∀ tv' tes', Lg.Own B 9 1 tv' (tags ++ [tag]).length (strs (tags ++ [tag])) tes' → Q (.bool true) (ste ps pl most tv' :: (tes' ++ S))) :
  CallWp Tryz.prog B 51 #[pt ps, .string (str (putB tag))] Q (ste ps pl most tv :: (tes ++ S)) := by
 obtain ⟨ta, tc, rfl⟩ := hl.reads.form
 have hpl : (putB tag).length = 17 := by unfold putB; rw [List.length_cons, ht]
 refine Yx (args := [_, _]) Tryz.func51 Tryz.ntmps51 ?_
 refine Yn 1 rfl ?_
 refine Wp.seq ?_
 refine Wp.block ?_
 refine Yg 4 rfl ?_
 refine Dv 10 rfl (by rw [hpl]; decide) fun cc1 => ?_
 refine Ye 1 rfl ?_
 refine OWp.g rfl rfl (Gives.indexStr (b := (84 : UInt8)) rfl rfl rfl rfl (by decide) rfl) ?_
 refine Yz 3 rfl ?_
 refine Cy rfl ?_
 refine Wp.seq ?_
 refine Yg 2 rfl ?_
 refine OWp.g rfl rfl (Gives.sliceStr (l := 1) (h' := (putB tag).length) rfl rfl rfl ⟨_, _, rfl, rfl⟩ rfl (by omega) (by omega)) ?_
 rw [show ((putB tag).drop 1).take ((putB tag).length - 1) = tag by rw [hpl]; unfold putB; rw [List.drop_succ_cons, List.drop_zero, List.take_of_length_le (by omega)]]
 refine Yc rfl rfl (shasC (tags := tags) (.head _) (hl.reads.mono fun x hx => .tail _ (List.mem_append_left _ hx)) hm ?_)
 rw [decide_eq_false hn]
 refine Yz 1 rfl ?_
 refine Cy rfl ?_
 refine Wp.regionDraw [0, 1, 2, 3, 4, 5, 6, 7, 8, 9, 10, 11] [7, 8, 11] rfl (by decide +kernel) ?_
 refine DWp.evs 4 rfl ?_
 refine Yd (show ste ps pl most (.slice ta tags.length tc) ∈ _ from .head _) ?_
 refine DWp.evs 1 rfl ?_
 refine DWp.g rfl rfl rfl rfl (Gives.sliceStr (l := 1) (h' := (putB tag).length) rfl rfl rfl ⟨_, _, rfl, rfl⟩ rfl (by omega) (by omega)) ?_
 rw [show ((putB tag).drop 1).take ((putB tag).length - 1) = tag by rw [hpl]; unfold putB; rw [List.drop_succ_cons, List.drop_zero, List.take_of_length_le (by omega)]]
 refine DWp.stepGrow rfl rfl rfl (Step.buildSlice rfl rfl rfl ?_); intro Lp2 hBLp2 hLLp2; refine ⟨fun _ hy => .tail _ hy, ?_⟩
 refine DWp.stepAll rfl rfl rfl rfl (Step.appendAt [_, _] rfl rfl rfl rfl rfl rfl (by decide) rfl rfl hl (Reads.row (k := 1) (sz := 1) (.head _) (Nat.le_of_ble_eq_true rfl)) rfl (by show (_ + 1) * 16 ≤ _; omega) (by unfold maxLen; omega) ?_); intro v2 es2 ho2 _
 refine DWp.drop0 (List.sublist_cons_self _ _) ?_
 obtain ⟨va, vc, hv⟩ := ho2.reads.form
 subst hv
 refine DWp.evs 2 rfl ?_
 refine DWp.stepAll rfl rfl rfl rfl (Step.storeAs 0 (stc7 pl most (.slice va (tags.length + 1) vc)) rfl rfl rfl rfl rfl hB rfl (Unfz.zero _) rfl (Nat.le_of_ble_eq_true rfl) rfl rfl ?_)
 refine DWp.nil ?_
 refine Yn 1 rfl ?_
 refine Wp.ret ⟨trivial, _, ⟨_, _, rfl, rfl, rfl⟩, ?_⟩
 exact H (.slice va (tags.length + 1) vc) es2 (by rw [List.length_append, show strs (tags ++ [tag]) = strs tags ++ [.string (str tag)] by simp [strs]]; exact ho2)
/-- A set is opened. -/
theorem sopenC (hk : KsIn S) {D : List UInt8} (h : DkIn B pd pr total D n W) (hc : (D = zer (64 * total) ∧ tags = [] ∧ n = 0) ∨ D = diskM total (tags.map putB)) (hsz : size = total / 2) (h2 : 2 ≤ size) (hu : tags.length + 1 ≤ size) (h5 : ∀ t ∈ tags, t.length = 16) (hnd : tags.Nodup) (hm1 : 1 ≤ most) (hm2 : most ≤ 4096)
  (H : ∀ ps W', SeIn B ps pd pr size total most tags n W' → Q (.tuple #[pt ps, .int .i64 0]) (W' ++ S)) :
  CallWp Tryz.prog B 29 #[pt pd, .int .i64 (most : Int)] Q (W ++ S) := by
 have hpu := used_put h5
 have ht2 := h.2.2.2.1
 refine subRet ?_
 refine Yx (args := [_, _]) Tryz.func29 Tryz.ntmps29 ?_
 refine Yn 2 rfl ?_
 refine Wp.seq ?_
 refine Yg 3 rfl ?_
 refine Dt 13 rfl (by omega) fun cc1 => ?_
 refine Yz 3 rfl ?_
 refine Ct rfl (by omega) fun cc2 => ?_
 refine Wp.skip ?_
 refine Yg 1 rfl ?_
 refine Yc rfl rfl (lopenC (ts := tags.map putB) hk h (by rcases hc with ⟨a, b, c⟩ | a; exact .inl ⟨a, by rw [b]; rfl, c⟩; exact .inr a) hsz h2 (by rw [hpu]; exact hu) (put_lens h5) ?_)
 intro pl W1 h1
 refine Yz 5 rfl ?_
 refine Wp.seq ?_
 refine Yn 2 rfl ?_
 refine Cu rfl (by exact fun h => h rfl) fun cc3 => ?_
 refine Wp.skip ?_
 refine Yg 2 rfl ?_
 refine OWp.g rfl rfl (Gives.build rfl rfl) ?_
 refine Yb rfl rfl rfl rfl fun L28 hBL28 hLL28 => ?_
 refine Yz 1 rfl ?_
 refine Wp.seq ?_
 refine Yg 1 rfl ?_
 refine Yc rfl rfl (recordsC h1 (fun x hx => .tail _ (List.mem_append_left _ hx)) ?_)
 intro rv res hrv
 obtain ⟨ra, rc, rfl⟩ := hrv.reads.form
 have hml : (tags.map putB).length = tags.length := List.length_map ..
 refine Yz 2 rfl ?_
 refine Wp.block ?_
 refine Wp.loopS (α := Nat × Value × Ents) (fun z => tags.length - z.1) (fun z => [(8, pt L28), (30, .slice ra (tags.map putB).length rc), (31, .int .i64 ((tags.map putB).length : Int)), (32, .int .i64 (z.1 : Int))]) (fun z => ste L28 pl most z.2.1 :: (z.2.2 ++ (res ++ (W1 ++ S)))) (fun z => z.1 ≤ tags.length ∧ Lg.Own B 9 1 z.2.1 (tags.take z.1).length (strs (tags.take z.1)) z.2.2) (0, .slice none 0 0, []) ?_ (permBy [res, [ste L28 pl most (.slice none 0 0)]] (W1 ++ S) [0, 1] [1, 0] (by decide)) ⟨Nat.zero_le _, Own.nil _ _ _⟩ ?_
 ·exact .cons rfl (.cons rfl (.cons rfl (.cons rfl (.nil _))))
 rintro ⟨i, tv, tes⟩ ⟨hi, htv⟩
 simp only at hi htv ⊢
 refine Yn 1 rfl ?_
 refine Wp.seq ?_
 refine Wp.cond rfl (fun c1 => ?_) (fun c1 => ?_)
 ·have c1 := of_decide_eq_true c1
  have hlt : i < tags.length := by omega
  have hlt2 : i < (tags.map putB).length := by omega
  obtain ⟨b1, o1, cc1', l1, e1, f1, hv1, hm1, _, hg1⟩ := hrv.reads.get1 (by omega)
  obtain ⟨rfl, rfl⟩ : ra = some ⟨b1, o1, none⟩ ∧ rc = cc1' := by simpa using hv1
  have x1 : (tags.map putB)[i]? = some (putB tags[i]) := by rw [List.getElem?_map, List.getElem?_eq_getElem hlt]; rfl
  refine Wp.skip ?_
  refine Wp.seq ?_
  refine Wp.block ?_
  refine Yq ?_
  refine OWp.g rfl rfl (Gives.indexAddrSlice (i) rfl rfl rfl rfl rfl rfl (by omega)) ?_
  refine OWp.load (.tail _ (List.mem_append_right _ (List.mem_append_left _ hm1))) rfl rfl rfl rfl ((hg1 i hlt2).trans (by rw [strs, List.getElem?_map, x1]; rfl)) ?_
  refine Yz 1 rfl ?_
  refine Yg 2 rfl ?_
  refine Yc rfl rfl (stakeC (tags := tags.take i) (tag := tags[i]) hBL28 htv (nodup_take hnd hlt) (h5 _ (List.getElem_mem hlt)) (by rw [List.length_take]; omega) ?_)
  intro tv2 tes2 h2'
  refine Yz 1 rfl ?_
  refine Cn rfl ?_
  refine Wp.skip ?_
  refine Wp.region ?_
  refine Yz 2 rfl ?_
  refine ⟨(i + 1, tv2, tes2), by simp only; omega, ⟨by simp only; omega, ?_⟩, .cons rfl (.cons rfl (.cons rfl (.cons' rfl (int_eq (i64_inc (by omega))) (.nil _)))), .refl _⟩
  simp only
  rw [List.take_succ_eq_append_getElem hlt]
  exact h2'
 have c1 := of_decide_eq_false c1
 obtain rfl : i = tags.length := by omega
 rw [List.take_length] at htv
 refine Wp.exit ?_
 refine Yn 3 rfl ?_
 refine Wp.ret ⟨trivial, _, ⟨_, _, rfl, rfl, _, _, rfl, rfl, rfl⟩, ?_⟩
 have hh := H L28 (ste L28 pl most tv :: (tes ++ W1)) ⟨hBL28, hnd, h5, pl, tv, tes, W1, htv, h1, rfl⟩
 rw [List.cons_append, List.append_assoc] at hh
 exact ⟨_, _, .refl _, .cons_cons _ ((List.Sublist.refl tes).append (List.sublist_append_right res _)), hh⟩
/-- A tag that is there is refused; another one is added. -/
theorem saddSeenC (h : SeIn B ps pd pr size total most tags n W) (hs : ∀ x ∈ W, x ∈ S) (hl : tags.length ≤ 4096) (ht : tag.length = 16) (hm : tag ∈ tags) (H : Q (.int .i64 170) S) : CallWp Tryz.prog B 39 #[pt ps, .string (str tag)] Q S := by
 obtain ⟨g1, g2, g3, pl, tv, tes, Wl, g4, g5, rfl⟩ := h
 refine Yx (args := [_, _]) Tryz.func39 Tryz.ntmps39 ?_
 refine Yn 1 rfl ?_
 refine Wp.seq ?_
 refine Wp.block ?_
 refine Yn 4 rfl ?_
 refine Cu rfl (by rw [ht]; decide) fun cc1 => ?_
 refine Yg 2 rfl ?_
 refine Yc rfl rfl (shasC (tags := tags) (hs _ (.head _)) (g4.reads.mono fun x hx => hs _ (.tail _ (List.mem_append_left _ hx))) hl ?_)
 rw [decide_eq_true hm]
 refine Yz 1 rfl ?_
 refine Cy rfl ?_
 refine Yn 1 rfl ?_
 refine Wp.ret ⟨trivial, _, ⟨_, _, rfl, rfl, rfl⟩, ?_⟩
 exact H
theorem swriteC (hk : KsIn S) {tes : Ents} (h5 : LoIn B pl pd pr size total (tags.map putB) n W) (h3 : ∀ t ∈ tags, t.length = 16) (ht : tag.length = 16) (hn : n ≤ 65536) (hr : tags.length + 2 ≤ size)
  (H : ∀ W', LoIn B pl pd pr size total ((tags ++ [tag]).map putB) 0 W' → Q (.int .i64 0) (ste ps pl most tv :: (tes ++ (W' ++ S)))) :
  CallWp Tryz.prog B 80 #[pt ps, .string (str (putB tag))] Q (ste ps pl most tv :: (tes ++ (W ++ S))) := by
 have hpl : (putB tag).length = 17 := by unfold putB; rw [List.length_cons, ht]
 refine subRet ?_
 refine Yx (args := [_, _]) Tryz.func80 Tryz.ntmps80 ?_
 refine Yn 1 rfl ?_
 refine Yg 3 rfl ?_
 refine Yl m0 ?_
 refine Ye 1 rfl ?_
 refine Yc rfl rfl (CallWp.permS (Pe (Pf .rfl)) (appendC (KsIn_of hk fun x hx => .tail _ (List.mem_append_right _ hx)) h5 (by omega) (by omega) hn (by rw [used_put h3, putB_sec ht]; omega) ?_))
 intro W1 h1
 refine Yz 1 rfl ?_
 refine Wp.seq ?_
 refine Yn 2 rfl ?_
 refine Ct rfl (by decide) fun cc1 => ?_
 refine Wp.skip ?_
 refine Wp.seq ?_
 refine Yn 2 rfl ?_
 refine Cu rfl (by exact fun h => h rfl) fun cc2 => ?_
 refine Wp.skip ?_
 refine Yg 3 rfl ?_
 refine Yl (List.mem_append_right _ (.head _)) ?_
 refine Yc rfl rfl (lsyncC h1 ?_)
 intro W2 h2
 refine Yz 1 rfl ?_
 refine Wp.ret ⟨trivial, _, ⟨_, _, rfl, rfl, rfl⟩, ?_⟩
 exact ⟨_, _, permBy [W2, [ste ps pl most tv], tes] S [0, 1, 2] [1, 2, 0] (by decide), .refl _, H W2 (by rw [List.map_append]; exact h2)⟩
theorem saddC (hk : KsIn S) (h : SeIn B ps pd pr size total most tags n W) (hl : tags.length < most) (hmo : most ≤ 4096) (ht : tag.length = 16) (hm : tag ∉ tags) (hn : n ≤ 65536) (hr : tags.length + 2 ≤ size)
  (H : ∀ W', SeIn B ps pd pr size total most (tags ++ [tag]) 0 W' → Q (.int .i64 0) (W' ++ S)) : CallWp Tryz.prog B 39 #[pt ps, .string (str tag)] Q (W ++ S) := by
 obtain ⟨g1, g2, g3, pl, tv, tes, Wl, g4, g5, rfl⟩ := h
 obtain ⟨ta, tc, rfl⟩ := g4.reads.form
 rw [List.cons_append, List.append_assoc]
 refine Yx (args := [_, _]) Tryz.func39 Tryz.ntmps39 ?_
 refine Yn 1 rfl ?_
 refine Wp.seq ?_
 refine Wp.block ?_
 refine Yn 4 rfl ?_
 refine Cu rfl (by rw [ht]; decide) fun cc1 => ?_
 refine Yg 2 rfl ?_
 refine Yc rfl rfl (shasC (tags := tags) (.head _) (g4.reads.mono fun x hx => .tail _ (List.mem_append_left _ hx)) (by omega) ?_)
 rw [decide_eq_false hm]
 refine Yz 1 rfl ?_
 refine Cn rfl ?_
 refine Wp.seq (Wp.regionDraw [0, 1, 2, 3, 4, 5, 6, 7, 8, 9, 10, 11, 12, 13, 14, 15, 16] [] rfl (by decide +kernel) ?_)
 refine DWp.evs 3 rfl ?_
 refine Yd m0 ?_
 refine DWp.evs 4 rfl ?_
 refine Yd m0 ?_
 refine DWp.evs 5 rfl ?_
 refine Yd m0 ?_
 refine DWp.evs 2 rfl ?_
 refine DWp.nil ?_
 refine Ct rfl (by rw [i64_id] <;> omega) fun cc2 => ?_
 refine Wp.skip ?_
 refine Wp.seq ?_
 refine Yg 2 rfl ?_
 refine Yc rfl rfl (sputC ?_ (by omega))
 refine Yc rfl rfl (swriteC hk g5 g3 ht hn hr ?_)
 intro W1 h1
 refine Yz 1 rfl ?_
 refine Yn 2 rfl ?_
 refine Cu rfl (by exact fun h => h rfl) fun cc3 => ?_
 refine Wp.skip ?_
 refine Yg 4 rfl ?_
 refine Yl m0 ?_
 refine Ye 1 rfl ?_
 refine OWp.step rfl (Step.buildSlice rfl rfl rfl ?_); intro Lp4 hBLp4 hLLp4
 refine OWp.step rfl (Step.appendAt [_, _] rfl rfl rfl rfl rfl rfl (by decide) rfl rfl g4 (Reads.row (k := 1) (sz := 1) (.head _) (Nat.le_of_ble_eq_true rfl)) rfl (by show (_ + 1) * 16 ≤ _; omega) (by unfold maxLen; omega) ?_); intro v2 es2 ho2 _
 refine OWp.dropAt 0 rfl ?_
 obtain ⟨va, vc, hv⟩ := ho2.reads.form
 subst hv
 refine Ye 2 rfl ?_
 refine OWp.step rfl (Step.storeAs 0 (stc7 pl most (.slice va (tags.length + 1) vc)) rfl rfl rfl rfl rfl g1 rfl (Unfz.zero _) rfl (Nat.le_of_ble_eq_true rfl) rfl rfl ?_)
 refine OWp.nil ?_
 refine Yn 1 rfl ?_
 refine Wp.ret ⟨trivial, _, ⟨_, _, rfl, rfl, rfl⟩, ?_⟩
 have hh := H (ste ps pl most (.slice va (tags.length + 1) vc) :: (es2 ++ W1)) ⟨g1, ?_, ?_, pl, _, es2, W1, (by rw [List.length_append, show strs (tags ++ [tag]) = strs tags ++ [.string (str tag)] by simp [strs]]; exact ho2), h1, rfl⟩
 ·rw [List.cons_append, List.append_assoc] at hh
  exact hh
 ·rw [List.nodup_append]
  exact ⟨g2, List.pairwise_singleton _ _, fun a ha b hb e => hm (by rw [List.mem_singleton.1 hb] at e; exact e ▸ ha)⟩
 ·intro t ht2
  rcases List.mem_append.1 ht2 with h | h
  ·exact g3 t h
  ·rw [List.mem_singleton.1 h]; exact ht
end
end Go.Proofs.D

namespace Go.Proofs.E
open Go.Lg Go.Whl
set_option maxRecDepth 100000

theorem i64_inc {a : Nat} (ha : a ≤ 281474976710656) : IntKind.i64.wrap ((a : Int) + 1) = ((a + 1 : Nat) : Int) := by rw [i64_id] <;> omega
theorem pow6 (k : Nat) : (2 : Nat) ^ (6 * k) = 64 ^ k := by rw [Nat.pow_mul]
theorem i63_and63 (x : Nat) (h : x < 9223372036854775808) : bits .and .i64 (x : Int) 63 = ((x % 64 : Nat) : Int) := by
 have h1 := Go.Lg.i63_and (a := x) (b := 63) h (by decide)
 rw [Nat.and_two_pow_sub_one_eq_mod x 6] at h1
 exact h1
theorem shr_dig {a k : Nat} (ha : a < most) (hk : k ≤ 6) : bits .and .i64 ((a : Int).fdiv (2 ^ (min (6 * k) IntKind.i64.bits))) 63 = ((dig a k : Nat) : Int) := by
 have e1 : min (6 * k) IntKind.i64.bits = 6 * k := by show min (6 * k) 64 = _; omega
 have e2 : (a : Int).fdiv (2 ^ (6 * k)) = ((a / 2 ^ (6 * k) : Nat) : Int) := by
  rw [Int.fdiv_eq_ediv_of_nonneg _ (by exact Int.le_of_lt (Int.pow_pos (by decide)))]
  simp
 have h3 : a / 2 ^ (6 * k) ≤ a := Nat.div_le_self _ _
 have hm : most = 4398046511104 := by decide
 rw [e1, e2, i63_and63 _ (by omega), pow6]
 rfl

section
variable {B : Nat} {S R : Ents} {Q : Value → Ents → Prop}

theorem newC (H : ∀ p, B ≤ p → Q (pt p) (wE p (fun _ => .slice none 0 0) 0 0 0 :: S)) : CallWp Tryz.prog B 30 #[] Q S := by
 refine Yx (args := []) Tryz.func30 Tryz.ntmps30 ?_
 refine Yn 1 rfl ?_
 refine Yq ?_
 refine OWp.g rfl rfl (Gives.build rfl rfl) ?_
 refine Yb rfl rfl rfl rfl fun p hBp hLp => ?_
 refine Yz 1 rfl ?_
 refine Wp.ret ⟨trivial, _, ⟨_, _, rfl, rfl, rfl⟩, ?_⟩
 exact H p hBp
theorem digitC {a k : Nat} {za zk : Int} (hza : za = (a : Int)) (hzk : zk = (k : Int)) (ha : a < most) (hk : k ≤ 6) (H : Q (.int .i64 (dig a k : Nat)) S) :
  CallWp Tryz.prog B 93 #[.int .i64 za, .int .i64 zk] Q S := by
 subst hza hzk
 refine Yx (args := [_, _]) Tryz.func93 Tryz.ntmps93 ?_
 refine Yn 1 rfl ?_
 refine Yg 3 rfl ?_
 refine OWp.g rfl rfl (Gives.shr (m := 6 * k) rfl rfl rfl (by rw [i64_id] <;> omega)) ?_
 refine Yz 2 rfl ?_
 refine Wp.ret ⟨trivial, _, ⟨_, _, rfl, rfl, rfl⟩, ?_⟩
 rw [shr_dig ha hk]; exact H
theorem levelC {p now put many a : Nat} {v : Nat → Value} {za : Int} (hza : za = (a : Int)) (hm : wE p v now put many ∈ S) (hn : now < most) (ha : a < most) (H : Q (.int .i64 (lev now a : Nat)) S) :
  CallWp Tryz.prog B 130 #[pt p, .int .i64 za] Q S := by
 subst hza
 refine Yx (args := [_, _]) Tryz.func130 Tryz.ntmps130 ?_
 refine Yn 1 rfl ?_
 refine Wp.seq ?_
 refine Yn 1 rfl ?_
 refine Wp.block ?_
 refine Wp.loopS (α := Nat) (fun k => k) (fun k => [(0, pt p), (1, .int .i64 (a : Int)), (5, .int .i64 (k : Int))]) (fun _ => S) (fun k => k ≤ 6 ∧ levF now a k = lev now a) 6 ?_ (.refl _) ⟨Nat.le_refl _, rfl⟩ ?_
 ·exact .cons rfl (.cons rfl (.cons rfl (.nil _)))
 rintro k ⟨hk, hl⟩
 refine Wp.seq ?_
 refine Yn 2 rfl ?_
 refine Wp.cond rfl (fun h1 => ?_) (fun h1 => ?_)
 ·have h1 := of_decide_eq_true h1
  obtain ⟨j, rfl⟩ : ∃ j, k = j + 1 := ⟨k - 1, by omega⟩
  refine Wp.skip ?_
  refine Wp.seq ?_
  refine Wp.block ?_
  refine Wp.seq (Wp.regionDraw [0, 1, 3, 4, 5, 6, 7, 2, 8, 9] [2, 8] rfl (by decide +kernel) ?_)
  refine DWp.evs 5 rfl ?_
  refine DWp.load hm rfl rfl rfl rfl rfl rfl (wv_now rfl) ?_
  refine DWp.evs 1 rfl ?_
  refine DWp.stepGrow rfl rfl rfl (Step.call rfl rfl rfl rfl rfl rfl ((digitC rfl rfl ha hk ?_)))
  refine ⟨fun _ hy => hy, ?_⟩
  refine DWp.stepGrow rfl rfl rfl (Step.call rfl rfl rfl rfl rfl rfl ((digitC rfl rfl hn hk ?_)))
  refine ⟨fun _ hy => hy, ?_⟩
  refine DWp.evs 1 rfl ?_
  refine DWp.nil ?_
  refine Wp.cond rfl (fun h2 => ?_) (fun h2 => ?_)
  ·have h2 := ndT h2
   refine Yn 2 rfl ?_
   refine Wp.ret ⟨trivial, _, ⟨_, _, rfl, rfl, rfl⟩, ?_⟩
   have : levF now a (j + 1) = j + 1 := by unfold levF; rw [if_neg (by omega)]
   rw [← hl, this] at H
   exact H
  have h2 := ndF h2
  refine Wp.skip ?_
  refine Wp.region ?_
  refine Yz 3 rfl ?_
  refine ⟨j, by omega, ⟨by omega, ?_⟩, .cons rfl (.cons rfl (.cons' rfl (int_eq (by rw [i64_id] <;> omega)) (.nil _))), .refl _⟩
  rw [← hl]; exact (if_pos (by omega)).symm
 have h1 := of_decide_eq_false h1
 obtain rfl : k = 0 := by omega
 refine Wp.exit ?_
 refine Yn 1 rfl ?_
 refine Wp.ret ⟨trivial, _, ⟨_, _, rfl, rfl, rfl⟩, ?_⟩
 rw [← hl] at H; exact H
theorem placeC {p now put many a : Nat} {v : Nat → Value} {za : Int} (hza : za = (a : Int)) (hm : wE p v now put many ∈ S) (hn : now < most) (ha : a < most) (H : Q (.pointer (some ⟨p, slotAt now a, none⟩)) S) :
  CallWp Tryz.prog B 82 #[pt p, .int .i64 za] Q S := by
 subst hza
 have hl := lev_le now a
 have hd := dig_lt a (lev now a)
 refine Yx (args := [_, _]) Tryz.func82 Tryz.ntmps82 ?_
 refine Yn 1 rfl ?_
 refine Yg 2 rfl ?_
 refine Yc rfl rfl (levelC rfl hm hn ha ?_)
 refine Yz 1 rfl ?_
 refine Wp.seq (Wp.regionDraw [0, 1, 2, 3, 5, 6, 7, 4, 8, 9] [4] rfl (by decide +kernel) ?_)
 refine DWp.evs 6 rfl ?_
 refine DWp.g rfl rfl rfl rfl (Gives.indexAddrArr ((lev now a)) rfl rfl rfl rfl rfl rfl (by omega)) ?_
 refine DWp.stepGrow rfl rfl rfl (Step.call rfl rfl rfl rfl rfl rfl ((digitC rfl rfl ha hl ?_)))
 refine ⟨fun _ hy => hy, ?_⟩
 refine DWp.g rfl rfl rfl rfl (Gives.indexAddrArr ((dig a (lev now a))) rfl rfl rfl rfl rfl rfl (by omega)) ?_
 refine DWp.evs 1 rfl ?_
 refine DWp.nil ?_
 refine Wp.ret ⟨trivial, _, ⟨_, _, rfl, rfl, rfl⟩, ?_⟩
 have e : 0 + 0 + lev now a * 64 + dig a (lev now a) * 1 = slotAt now a := by unfold slotAt; omega
 have e2 : Q (.pointer (some ⟨p, 0 + 0 + lev now a * 64 + dig a (lev now a) * 1, none⟩)) S := by rw [e]; exact H
 exact e2
end
end Go.Proofs.E

namespace Go.Proofs.E
open Go.Lg Go.Whl
set_option maxRecDepth 100000

def far : Nat := 1099511627776
theorem far_most {a : Nat} (h : a ≤ 1099511627776) : a < most := by
 have : most = 4398046511104 := by decide
 omega
/-- A wheel of these timers. -/
structure WOk (B : Nat) (M : List T) (now put : Nat) (v : Nat → Value) (es : Nat → Ents) : Prop where
 slots : SlotsOk B (tabM now M) v es
 time : now ≤ 1099511627776
 fit : ∀ t ∈ M, now ≤ t.due ∧ t.due ≤ 1099511627776
 nos : M.Pairwise fun a b => a.no < b.no
 low : ∀ t ∈ M, t.no ≤ put
 len : M.length ≤ 4096
theorem tabM_len (now : Nat) (M : List T) (j : Nat) : (tabM now M j).length ≤ M.length := List.length_filter_le _ _
theorem open2 {es : Nat → Ents} {j : Nat} (hj : j < 448) (w : Nat × Obj) (S : Ents) : (w :: (flatE es 448 ++ S)).Perm (w :: (es j ++ (flatE (upd es j []) 448 ++ S))) := by
 have h := flatE_upd es (es j) hj
 rw [upd_self] at h
 refine ((h.append_right S).cons w).trans ?_
 rw [List.append_assoc]
theorem shut2 {es : Nat → Ents} {j : Nat} (hj : j < 448) (x : Ents) (w : Nat × Obj) (S : Ents) : (w :: (x ++ (flatE (upd es j []) 448 ++ S))).Perm (w :: (flatE (upd es j x) 448 ++ S)) := by
 refine .cons w ?_
 rw [← List.append_assoc]
 exact (flatE_upd es x hj).symm.append_right S
theorem subRet {P : Program} {B : Nat} {f : FuncId} {args : Array Value} {Q : Value → Ents → Prop} {S : Ents} (h : CallWp P B f args (fun v S' => ∃ S1 S2 : Ents, S'.Perm S1 ∧ S2.Sublist S1 ∧ Q v S2) S) : CallWp P B f args Q S :=
 fun w hS => (h w hS).mono fun _ _ ⟨v, _, e, hb, hs, _, S2, hp, hsub, q⟩ => ⟨v, S2, e, hb, (hs.perm hp).sublist hsub, q⟩
theorem WOk.append {B : Nat} {M : List T} {now put : Nat} {v : Nat → Value} {es : Nat → Ents} (h : WOk B M now put v es) {a : Nat} {id : Int} (ha : now < a) (ha2 : a ≤ 1099511627776) (hl : M.length < 4096) {x : Value} {e : Ents}
  (hx : Lg.Own B 144 3 x ((tabM now M (slotAt now a)).length + 1) (tcs (tabM now M (slotAt now a)) ++ tc ⟨a, id, put + 1⟩) e) : WOk B (M ++ [⟨a, id, put + 1⟩]) now (put + 1) (upd v (slotAt now a) x) (upd es (slotAt now a) e) := by
 refine ⟨?_, h.time, ?_, ?_, ?_, by rw [List.length_append]; simp; omega⟩
 ·rw [tabM_append]
  refine h.slots.upd ?_
  rw [List.length_append, tcs_append, tcs_one]
  exact hx
 ·intro t ht
  rcases List.mem_append.1 ht with ht | ht
  ·exact h.fit t ht
  ·rw [List.mem_singleton.1 ht]; exact ⟨Nat.le_of_lt ha, ha2⟩
 ·refine List.pairwise_append.2 ⟨h.nos, List.pairwise_singleton _ _, fun x hx y hy => ?_⟩
  rw [List.mem_singleton.1 hy]
  have := h.low x hx
  show x.no < put + 1
  omega
 ·intro t ht
  rcases List.mem_append.1 ht with ht | ht
  ·have := h.low t ht; omega
  ·rw [List.mem_singleton.1 ht]; exact Nat.le_refl _
theorem wOk_new (B : Nat) : WOk B [] 0 0 (fun _ => .slice none 0 0) (fun _ => []) := by
 refine ⟨fun j _ => ?_, by decide, by simp, List.Pairwise.nil, by simp, by decide⟩
 exact Own.nil _ _ _

attribute [local irreducible] wv flatE tabM slotAt

section
variable {B : Nat} {S R : Ents} {Q : Value → Ents → Prop}

set_option maxHeartbeats 1000000 in
theorem putOkC {p now put a : Nat} {M : List T} {v : Nat → Value} {es : Nat → Ents} {za id : Int} (hza : za = (a : Int)) (hB : B ≤ p) (hw : WOk B M now put v es) (ha : now < a) (ha2 : a ≤ 1099511627776) (hl : M.length < 4096) (hp : put ≤ 1099511627776)
  (H : ∀ v' es', WOk B (M ++ [⟨a, id, put + 1⟩]) now (put + 1) v' es' → Q (.tuple #[.int .i64 ((put + 1 : Nat) : Int), .int .i64 0]) (wE p v' now (put + 1) (M.length + 1) :: (flatE es' 448 ++ S))) :
  CallWp Tryz.prog B 40 #[pt p, .int .i64 za, .int .i64 id] Q (wE p v now put M.length :: (flatE es 448 ++ S)) := by
 subst hza
 have hj := slotAt_lt now a
 have hwt := hw.time
 have hlen := Nat.le_trans (tabM_len now M (slotAt now a)) (Nat.le_of_lt hl)
 refine CallWp.permS (open2 hj _ _) (subRet ?_)
 refine Yx (args := [_, _, _]) Tryz.func40 Tryz.ntmps40 ?_
 refine Yn 2 rfl ?_
 refine Wp.seq ?_
 refine Wp.block ?_
 refine Yg 4 rfl ?_
 refine OWp.load (.head _) rfl rfl rfl rfl (wv_now rfl) ?_
 refine Yz 2 rfl ?_
 refine Ct rfl (by omega) fun cc1 => ?_
 refine Yn 3 rfl ?_
 refine Ct rfl (by omega) fun cc2 => ?_
 refine Yg 3 rfl ?_
 refine OWp.load (.head _) rfl rfl rfl rfl (wv_many rfl) ?_
 refine Yz 2 rfl ?_
 refine Ct rfl (by omega) fun cc3 => ?_
 refine Wp.skip ?_
 refine Yg 3 rfl ?_
 refine OWp.load (.head _) rfl rfl rfl rfl (wv_put rfl) ?_
 refine Ye 3 rfl ?_
 refine OWp.step rfl (Step.storeAs 0 (wv v now (put + 1) M.length) rfl rfl rfl rfl rfl hB rfl (Unfz.zero _) rfl (by rw [wv_len]; show 0 + 449 + 1 ≤ 451; decide) (by rw [i64_inc (by omega)]; exact wv_set_put rfl) rfl ?_)
 refine OWp.nil ?_
 refine Yg 3 rfl ?_
 refine OWp.load (.head _) rfl rfl rfl rfl (wv_many rfl) ?_
 refine Ye 3 rfl ?_
 refine OWp.step rfl (Step.storeAs 0 (wv v now (put + 1) (M.length + 1)) rfl rfl rfl rfl rfl hB rfl (Unfz.zero _) rfl (by rw [wv_len]; show 0 + 450 + 1 ≤ 451; decide) (by rw [i64_inc (by omega)]; exact wv_set_many rfl) rfl ?_)
 refine OWp.nil ?_
 refine Yg 2 rfl ?_
 refine Yc rfl rfl (placeC rfl (.head _) (far_most hwt) (far_most ha2) ?_)
 refine Yz 1 rfl ?_
 refine Wp.seq (Wp.regionDraw [0, 1, 2, 3, 4, 5, 6, 7, 8, 9, 10, 11, 12, 13, 14] [11, 12, 14] rfl (by decide +kernel) ?_)
 refine DWp.evs 3 rfl ?_
 refine DWp.load (.head _) rfl rfl rfl rfl rfl rfl (wv_slot hj rfl) ?_
 refine DWp.evs 5 rfl ?_
 refine DWp.load (.head _) rfl rfl rfl rfl rfl rfl (wv_put rfl) ?_
 refine DWp.g rfl rfl rfl rfl (Gives.build rfl rfl) ?_
 refine DWp.stepGrow rfl rfl rfl (Step.buildSlice rfl rfl rfl ?_); intro Lp4 hBLp4 hLLp4; refine ⟨fun _ hy => .tail _ hy, ?_⟩
 refine DWp.stepAll rfl rfl rfl rfl (Step.appendAt [_, _] rfl rfl rfl rfl rfl rfl (by decide) rfl rfl (hw.slots _ hj) (Reads.row (k := 1) (sz := 3) (.head _) (Nat.le_of_ble_eq_true rfl)) rfl (by show (_ + 1) * 24 ≤ _; omega) (by unfold maxLen; omega) ?_); intro x e2 ho2 _
 refine DWp.drop0 (List.sublist_cons_self _ _) ?_
 obtain ⟨xa, xc, rfl⟩ := ho2.reads.form
 refine DWp.evs 1 rfl ?_
 refine DWp.stepAll rfl rfl rfl rfl (Step.storeAs 0 (wv (upd v (slotAt now a) (.slice xa ((tabM now M (slotAt now a)).length + 1) xc)) now (put + 1) (M.length + 1)) rfl rfl rfl rfl rfl hB rfl (Unfz.zero _) rfl (by rw [wv_len]; show slotAt now a + 1 ≤ 451; omega) (wv_set_slot hj rfl) rfl ?_)
 refine DWp.nil ?_
 refine Yg 3 rfl ?_
 refine OWp.load (.head _) rfl rfl rfl rfl (wv_put rfl) ?_
 refine Yz 2 rfl ?_
 refine Wp.ret ⟨trivial, _, ⟨_, _, rfl, rfl, _, _, rfl, rfl, rfl⟩, ?_⟩
 refine ⟨_, _, shut2 hj _ _ _, .refl _, ?_⟩
 exact H _ _ (hw.append ha ha2 hl ho2)
theorem nowC {p now put many : Nat} {v : Nat → Value} (hm : wE p v now put many ∈ S) (H : Q (.int .i64 (now : Int)) S) : CallWp Tryz.prog B 78 #[pt p] Q S := by
 refine Yx (args := [_]) Tryz.func78 Tryz.ntmps78 ?_
 refine Yn 1 rfl ?_
 refine Yg 3 rfl ?_
 refine OWp.load hm rfl rfl rfl rfl (wv_now rfl) ?_
 refine Yz 1 rfl ?_
 refine Wp.ret ⟨trivial, _, ⟨_, _, rfl, rfl, rfl⟩, ?_⟩
 exact H
def ordI (a b : T) : Int := if a.due = b.due then (a.no : Int) - (b.no : Int) else (a.due : Int) - (b.due : Int)
def Small (t : T) : Prop := t.due ≤ 1099511627776 ∧ t.no ≤ 1099511627776
theorem orderC {a b : T} (ha : Small a) (hb : Small b) (H : Q (.int .i64 (ordI a b)) S) : CallWp Tryz.prog B 95 #[.agg (tc a).toArray, .agg (tc b).toArray] Q S := by
 obtain ⟨a1, a2⟩ := ha
 obtain ⟨b1, b2⟩ := hb
 refine CallWp.dropRet ?_
 refine Yx (args := [_, _]) Tryz.func95 Tryz.ntmps95 ?_
 refine Yq ?_
 refine Yb rfl rfl rfl rfl fun L1 hBL1 hLL1 => ?_
 refine Yb rfl rfl rfl rfl fun L2 hBL2 hLL2 => ?_
 refine Yz 1 rfl ?_
 refine Wp.seq ?_
 refine Yg 1 rfl ?_
 refine Yl m1 ?_
 refine Ye 1 rfl ?_
 refine Yl m0 ?_
 refine Yz 1 rfl ?_
 refine Wp.cond rfl (fun h1 => ?_) (fun h1 => ?_)
 ·have h1 := ndT h1
  refine Yg 1 rfl ?_
  refine Yl m1 ?_
  refine Ye 1 rfl ?_
  refine Yl m0 ?_
  refine Yz 2 rfl ?_
  refine Wp.ret ⟨trivial, _, ⟨_, _, rfl, rfl, rfl⟩, ?_⟩
  have e : ordI a b = (a.due : Int) - (b.due : Int) := if_neg (by omega)
  exact ⟨S, subl, by rw [i64_id (by omega) (by omega), ← e]; exact H⟩
 have h1 := ndF h1
 refine Wp.skip ?_
 refine Yg 1 rfl ?_
 refine Yl m1 ?_
 refine Ye 1 rfl ?_
 refine Yl m0 ?_
 refine Yz 2 rfl ?_
 refine Wp.ret ⟨trivial, _, ⟨_, _, rfl, rfl, rfl⟩, ?_⟩
 have e : ordI a b = (a.no : Int) - (b.no : Int) := if_pos (by omega)
 exact ⟨S, subl, by rw [i64_id (by omega) (by omega), ← e]; exact H⟩
end
end Go.Proofs.E

namespace Go.Proofs.E
open Go.Lg Go.Whl
set_option maxRecDepth 100000

abbrev ordV : Value := .func (.func 95) #[] #[]
theorem timer_at {S : Ents} {v : Value} {l : List T} (h : Reads S 3 v l.length (tcs l)) (h0 : 0 < l.length) :
  ∃ b o cap L e fz, v = .slice (some ⟨b, o, none⟩) l.length cap ∧ (b, cel L e fz) ∈ S ∧ ∀ i (hi : i < l.length), Lg.partAt Tryz.prog 144 L (o + i * 3) = some (.agg (tc l[i]).toArray) := by
 obtain ⟨b, o, cap, L, e, fz, hv, hm, hat⟩ := Reads.elem (f := tc) (xs := l) h (fun _ _ => rfl) h0
 exact ⟨b, o, cap, L, e, fz, hv, hm, fun i hi => partAt_agg (n := 3) (hat i hi) rfl rfl rfl⟩
/-- Timers in order. -/
structure InOrder (l : List T) : Prop where
 ord : ∀ i j (hi : i < l.length) (hj : j < l.length), i < j → 0 < ordI l[j] l[i]
 small : ∀ t ∈ l, Small t
theorem InOrder.at {l : List T} (h : InOrder l) {i : Nat} (hi : i < l.length) : Small l[i] := h.small _ (List.getElem_mem hi)
def len8 (i : Nat) : UInt8 := UInt8.ofNat (if i = 0 then 0 else Nat.log2 i + 1)

section
variable {B : Nat} {S R : Ents} {Q : Value → Ents → Prop}

theorem order2C {l : List T} {va : Option Addr} {vc a b q : Nat} (hl : Reads S 3 (.slice va l.length vc) l.length (tcs l)) (ho : InOrder l) (hb : b < l.length) (hab : a < b) (H : Q (.tuple #[.int .i64 (a : Int), .int .i64 (b : Int)]) S) :
  CallWp Tryz.prog B 233 #[.slice va l.length vc, .int .i64 (a : Int), .int .i64 (b : Int), pt q, ordV] Q S := by
 obtain ⟨b1, o1, c1, L, e, fz, hv, hm, hat⟩ := timer_at hl (by omega)
 cases hv
 have ha : a < l.length := by omega
 have hpos := ho.ord a b ha hb hab
 refine Yx (args := [_, _, _, _, _]) Tryz.func233 Tryz.ntmps233 ?_
 refine Yn 2 rfl ?_
 refine Wp.seq ?_
 refine Wp.seq (Wp.regionDraw [0, 1, 2, 3, 4, 5, 6, 7, 8, 9, 10] [9] rfl (by decide +kernel) ?_)
 refine DWp.evs 3 rfl ?_
 refine DWp.g rfl rfl rfl rfl (Gives.indexAddrSlice (b) rfl rfl rfl rfl rfl rfl (by omega)) ?_
 refine DWp.load hm rfl rfl rfl rfl rfl rfl (hat b hb) ?_
 refine DWp.evs 2 rfl ?_
 refine DWp.g rfl rfl rfl rfl (Gives.indexAddrSlice (a) rfl rfl rfl rfl rfl rfl (by omega)) ?_
 refine DWp.load hm rfl rfl rfl rfl rfl rfl (hat a ha) ?_
 refine DWp.stepGrow rfl rfl rfl (Step.call rfl rfl rfl rfl rfl rfl ((orderC (ho.at hb) (ho.at ha) ?_)))
 refine ⟨fun _ hy => hy, ?_⟩
 refine DWp.evs 1 rfl ?_
 refine DWp.nil ?_
 refine Ct rfl (by omega) fun cc1 => ?_
 refine Wp.skip ?_
 refine Yn 4 rfl ?_
 refine Wp.ret ⟨trivial, _, ⟨_, _, rfl, rfl, _, _, rfl, rfl, rfl⟩, ?_⟩
 exact H
theorem medianC {l : List T} {va : Option Addr} {vc a b c q : Nat} {za zc : Int} (hza : za = (a : Int)) (hzc : zc = (c : Int)) (hl : Reads S 3 (.slice va l.length vc) l.length (tcs l)) (ho : InOrder l) (hab : a < b) (hbc : b < c) (hc : c < l.length) (H : Q (.int .i64 (b : Int)) S) :
  CallWp Tryz.prog B 221 #[.slice va l.length vc, .int .i64 za, .int .i64 (b : Int), .int .i64 zc, pt q, ordV] Q S := by
 subst hza hzc
 refine Yx (args := [_, _, _, _, _, _]) Tryz.func221 Tryz.ntmps221 ?_
 refine Yn 1 rfl ?_
 refine Yg 5 rfl ?_
 refine Yc rfl rfl (order2C hl ho (by omega) hab ?_)
 refine Yz 5 rfl ?_
 refine Yg 5 rfl ?_
 refine Yc rfl rfl (order2C hl ho hc hbc ?_)
 refine Yz 5 rfl ?_
 refine Yg 5 rfl ?_
 refine Yc rfl rfl (order2C hl ho (by omega) hab ?_)
 refine Yz 5 rfl ?_
 refine Yn 2 rfl ?_
 refine Wp.ret ⟨trivial, _, ⟨_, _, rfl, rfl, rfl⟩, ?_⟩
 exact H
theorem medianAdjC {l : List T} {va : Option Addr} {vc a q : Nat} (hl : Reads S 3 (.slice va l.length vc) l.length (tcs l)) (ho : InOrder l) (h0 : 0 < a) (ha : a + 1 < l.length) (hs : l.length ≤ 100000) (H : Q (.int .i64 (a : Int)) S) :
  CallWp Tryz.prog B 220 #[.slice va l.length vc, .int .i64 (a : Int), pt q, ordV] Q S := by
 refine Yx (args := [_, _, _, _]) Tryz.func220 Tryz.ntmps220 ?_
 refine Yn 1 rfl ?_
 refine Yg 8 rfl ?_
 refine Yc rfl rfl (medianC (a := a - 1) (c := a + 1) (by rw [i64_id] <;> omega) (i64_inc (by omega)) hl ho (by omega) (by omega) ha ?_)
 refine Yz 1 rfl ?_
 refine Wp.ret ⟨trivial, _, ⟨_, _, rfl, rfl, rfl⟩, ?_⟩
 exact H
theorem quart_term {n : Nat} (hn : n ≤ 100000) (m : Nat) (hm : m ≤ 3) : IntKind.i64.wrap (0 + IntKind.i64.wrap (IntKind.i64.wrap ((n : Int).tdiv 4) * (m : Int))) = ((n / 4 * m : Nat) : Int) := by
 have e : (n : Int).tdiv 4 = ((n / 4 : Nat) : Int) := by rw [Int.tdiv_eq_ediv_of_nonneg (by omega)]; omega
 have h1 : n / 4 * m ≤ 100000 * 3 := Nat.mul_le_mul (by omega) hm
 have e2 : ((n / 4 : Nat) : Int) * (m : Int) = ((n / 4 * m : Nat) : Int) := by simp
 rw [e, i64_id (x := ((n / 4 : Nat) : Int)) (by omega) (by omega), e2, i64_id (x := ((n / 4 * m : Nat) : Int)) (by omega) (by omega), i64_id (by omega) (by omega)]
 omega

theorem pivotC {l : List T} {va : Option Addr} {vc : Nat} (hl : Reads S 3 (.slice va l.length vc) l.length (tcs l)) (ho : InOrder l) (h0 : 12 < l.length) (hs : l.length ≤ 100000) (H : ∀ k : Nat, Q (.tuple #[.int .i64 (k : Int), .int .i64 1]) S) :
  CallWp Tryz.prog B 188 #[.slice va l.length vc, .int .i64 0, .int .i64 (l.length : Int), ordV] Q S := by
 have q1 := quart_term hs 1 (by decide)
 have q2 := quart_term hs 2 (by decide)
 have q3 := quart_term hs 3 (by decide)
 have en : IntKind.i64.wrap ((l.length : Int) - 0) = (l.length : Int) := by rw [i64_id] <;> omega
 refine CallWp.dropRet ?_
 refine Yx (args := [_, _, _, _]) Tryz.func188 Tryz.ntmps188 ?_
 refine Yn 2 rfl ?_
 refine Yn 4 rfl ?_
 refine Wp.weaken (E' := [(10, .int .i64 (l.length : Int)), (0, .slice va l.length vc), (1, .int .i64 0), (2, .int .i64 (l.length : Int)), (3, ordV)]) (.cons' rfl (int_eq en) (.cons rfl (.cons rfl (.cons rfl (.cons rfl (.nil _)))))) (fun _ h => h) ?_
 refine Yq ?_
 refine Ya rfl rfl rfl rfl fun L hBL hLL => ?_
 refine OWp.nil ?_
 refine Yn 6 rfl ?_
 refine Yn 6 rfl ?_
 refine Yn 6 rfl ?_
 refine Wp.weaken (E' := [(10, .int .i64 (l.length : Int)), (0, .slice va l.length vc), (1, .int .i64 0), (2, .int .i64 (l.length : Int)), (3, ordV), (11, pt L), (12, .int .i64 ((l.length / 4 * 1 : Nat) : Int)), (13, .int .i64 ((l.length / 4 * 2 : Nat) : Int)), (14, .int .i64 ((l.length / 4 * 3 : Nat) : Int))]) (.cons rfl (.cons rfl (.cons rfl (.cons rfl (.cons rfl (.cons rfl (.cons' rfl (int_eq q1) (.cons' rfl (int_eq q2) (.cons' rfl (int_eq q3) (.nil _)))))))))) (fun _ h => h) ?_
 have hl2 : Reads ((L, cel [.int .i64 0] 3) :: S) 3 (.slice va l.length vc) l.length (tcs l) := hl.mono fun _ h => .tail _ h
 refine Wp.seq ?_
 refine Yn 2 rfl ?_
 refine Cv rfl (by omega) fun cc1 => ?_
 refine Wp.seq ?_
 refine Yn 2 rfl ?_
 refine Wp.cond rfl (fun h5 => ?_) (fun h5 => ?_)
 ·have h5 := of_decide_eq_true h5
  refine Yg 3 rfl ?_
  refine Yc rfl rfl (medianAdjC hl2 ho (by omega) (by omega) hs ?_)
  refine Yz 1 rfl ?_
  refine Yg 3 rfl ?_
  refine Yc rfl rfl (medianAdjC hl2 ho (by omega) (by omega) hs ?_)
  refine Yz 1 rfl ?_
  refine Wp.region ?_
  refine Ye 3 rfl ?_
  refine Yc rfl rfl (medianAdjC hl2 ho (by omega) (by omega) hs ?_)
  refine Yz 1 rfl ?_
  refine Wp.region ?_
  refine Ye 5 rfl ?_
  refine Yc rfl rfl (medianC rfl rfl hl2 ho (by omega) (by omega) (by omega) ?_)
  refine Yz 1 rfl ?_
  refine Yq ?_
  refine Yl m0 ?_
  refine OWp.nil ?_
  refine Wp.block ?_
  refine Yn 2 rfl ?_
  refine Cv rfl (by decide) fun cc2 => ?_
  refine Yn 3 rfl ?_
  refine Wp.ret ⟨trivial, _, ⟨_, _, rfl, rfl, _, _, rfl, rfl, rfl⟩, ?_⟩
  exact ⟨S, subl, H _⟩
 have h5 := of_decide_eq_false h5
 refine Wp.skip ?_
 refine Wp.region ?_
 refine Ye 5 rfl ?_
 refine Yc rfl rfl (medianC rfl rfl hl2 ho (by omega) (by omega) (by omega) ?_)
 refine Yz 1 rfl ?_
 refine Yq ?_
 refine Yl m0 ?_
 refine OWp.nil ?_
 refine Wp.block ?_
 refine Yn 2 rfl ?_
 refine Cv rfl (by decide) fun cc3 => ?_
 refine Yn 3 rfl ?_
 refine Wp.ret ⟨trivial, _, ⟨_, _, rfl, rfl, _, _, rfl, rfl, rfl⟩, ?_⟩
 exact ⟨S, subl, H _⟩
theorem partialC {l : List T} {va : Option Addr} {vc : Nat} (hl : Reads S 3 (.slice va l.length vc) l.length (tcs l)) (ho : InOrder l) (h0 : 12 < l.length) (hs : l.length ≤ 100000) (H : Q (.bool true) S) :
  CallWp Tryz.prog B 190 #[.slice va l.length vc, .int .i64 0, .int .i64 (l.length : Int), ordV] Q S := by
 obtain ⟨b1, o1, c1, L, e, fz, hv, hm, hat⟩ := timer_at hl (by omega)
 cases hv
 refine Yx (args := [_, _, _, _]) Tryz.func190 Tryz.ntmps190 ?_
 refine Yn 1 rfl ?_
 refine Yn 3 rfl ?_
 refine Wp.seq ?_
 refine Yn 1 rfl ?_
 refine Wp.block ?_
 refine Wp.loopS (α := Unit) (fun _ => 0) (fun _ => [(0, .slice (some ⟨b1, o1, none⟩) l.length vc), (1, .int .i64 0), (2, .int .i64 (l.length : Int)), (3, ordV), (9, .int .i64 1), (10, .int .i64 0)]) (fun _ => S) (fun _ => True) () ?_ (.refl _) trivial ?_
 ·exact .cons rfl (.cons rfl (.cons rfl (.cons rfl (.cons' rfl rfl (.cons rfl (.nil _))))))
 rintro ⟨⟩ -
 refine Wp.seq ?_
 refine Yn 2 rfl ?_
 refine Cv rfl (by decide) fun cc1 => ?_
 refine Wp.skip ?_
 refine Wp.seq ?_
 refine Wp.block ?_
 refine Wp.seq ?_
 refine Wp.block ?_
 refine Wp.loopS (α := Nat) (fun i => l.length - i) (fun i => [(0, .slice (some ⟨b1, o1, none⟩) l.length vc), (2, .int .i64 (l.length : Int)), (3, ordV), (9, .int .i64 (i : Int))]) (fun _ => S) (fun i => 1 ≤ i ∧ i ≤ l.length) 1 ?_ (.refl _) ⟨Nat.le_refl _, by omega⟩ ?_
 ·exact .cons rfl (.cons rfl (.cons rfl (.cons rfl (.nil _))))
 rintro i ⟨hi1, hi⟩
 refine Wp.seq ?_
 refine Wp.seq (Wp.regionDraw [0, 1, 2, 3, 4, 5, 6, 7, 8, 9, 10, 11, 12, 13, 14, 15, 16, 17] [14] rfl (by decide +kernel) ?_)
 refine DWp.evs 4 rfl ?_
 refine DWp.part 22 rfl (fun h2 => ?_) (fun h2 => ?_)
 ·have h2 := of_decide_eq_true h2
  have hi2 : i < l.length := by omega
  have e1 : IntKind.i64.wrap ((i : Int) - 1) = ((i - 1 : Nat) : Int) := by rw [i64_id] <;> omega
  have hpos := ho.ord (i - 1) i (by omega) hi2 (by omega)
  refine DWp.evs 3 rfl ?_
  refine DWp.g rfl rfl rfl rfl (Gives.indexAddrSlice (i) rfl rfl rfl rfl rfl rfl (by omega)) ?_
  refine DWp.load hm rfl rfl rfl rfl rfl rfl (hat i hi2) ?_
  refine DWp.evs 3 rfl ?_
  refine DWp.g rfl rfl rfl rfl (Gives.indexAddrSlice ((i - 1)) rfl rfl rfl rfl rfl e1 (by omega)) ?_
  refine DWp.load hm rfl rfl rfl rfl rfl rfl (hat (i - 1) (by omega)) ?_
  refine DWp.stepGrow rfl rfl rfl (Step.call rfl rfl rfl rfl rfl rfl ((orderC (ho.at hi2) (ho.at (by omega)) ?_)))
  refine ⟨fun _ hy => hy, ?_⟩
  refine DWp.evs 3 rfl ?_
  refine DWp.nil ?_
  refine Cw rfl (by omega) fun cc2 => ?_
  refine Wp.skip ?_
  refine Wp.block ?_
  refine Wp.region ?_
  refine Yz 3 rfl ?_
  exact ⟨i + 1, by omega, by omega, .cons rfl (.cons rfl (.cons rfl (.cons' rfl (int_eq (i64_inc (by omega))) (.nil _)))), .refl _⟩
 have h2 := of_decide_eq_false h2
 obtain rfl : i = l.length := by omega
 refine DWp.evs 10 rfl ?_
 refine DWp.stepSkip rfl rfl rfl rfl ?_
 refine DWp.evs 3 rfl ?_
 refine DWp.nil ?_
 refine Cn rfl ?_
 refine Wp.exit ?_
 refine Wp.seq ?_
 refine Yn 3 rfl ?_
 refine Cv rfl (by omega) fun cc3 => ?_
 refine Yn 1 rfl ?_
 refine Wp.ret ⟨trivial, _, ⟨_, _, rfl, rfl, rfl⟩, ?_⟩
 exact H
theorem insertC {l : List T} {va : Option Addr} {vc : Nat} (hl : Reads S 3 (.slice va l.length vc) l.length (tcs l)) (ho : InOrder l) (hs : l.length ≤ 100000) (H : Q (.tuple #[]) S) :
  CallWp Tryz.prog B 185 #[.slice va l.length vc, .int .i64 0, .int .i64 (l.length : Int), ordV] Q S := by
 refine Yx (args := [_, _, _, _]) Tryz.func185 Tryz.ntmps185 ?_
 refine Yn 3 rfl ?_
 refine Wp.block ?_
 refine Wp.loopS (α := Nat) (fun i => l.length - i) (fun i => [(0, .slice va l.length vc), (1, .int .i64 0), (2, .int .i64 (l.length : Int)), (3, ordV), (8, .int .i64 (i : Int))]) (fun _ => S) (fun i => 1 ≤ i) 1 ?_ (.refl _) (Nat.le_refl _) ?_
 ·exact .cons rfl (.cons rfl (.cons rfl (.cons rfl (.cons' rfl rfl (.nil _)))))
 rintro i hi1
 refine Wp.seq ?_
 refine Yn 3 rfl ?_
 refine Wp.cond rfl (fun h1 => ?_) (fun h1 => ?_)
 ·have h1 := of_decide_eq_true h1
  have hi2 : i < l.length := by omega
  obtain ⟨b1, o1, c1, L, e, fz, hv, hm, hat⟩ := timer_at hl (by omega)
  cases hv
  have e1 : IntKind.i64.wrap ((i : Int) - 1) = ((i - 1 : Nat) : Int) := by rw [i64_id] <;> omega
  have hpos := ho.ord (i - 1) i (by omega) hi2 (by omega)
  refine Wp.skip ?_
  refine Wp.seq ?_
  refine Wp.block ?_
  refine Yn 2 rfl ?_
  refine Wp.block ?_
  refine Wp.loopS (α := Unit) (fun _ => 0) (fun _ => [(0, .slice (some ⟨b1, o1, none⟩) l.length vc), (1, .int .i64 0), (2, .int .i64 (l.length : Int)), (3, ordV), (8, .int .i64 (i : Int)), (9, .int .i64 (i : Int))]) (fun _ => S) (fun _ => True) () ?_ (.refl _) trivial ?_
  ·exact .cons rfl (.cons rfl (.cons rfl (.cons rfl (.cons rfl (.cons rfl (.nil _))))))
  rintro ⟨⟩ -
  refine Wp.seq ?_
  refine Wp.seq (Wp.regionDraw [0, 1, 2, 3, 4, 5, 6, 7, 8, 9, 10, 11, 12, 13, 14, 15, 16] [14] rfl (by decide +kernel) ?_)
  refine DWp.evs 4 rfl ?_
  refine DWp.part 21 rfl (fun cc1 => ?_) (fun cc1 => absurd (of_decide_eq_false cc1) (by omega))
  have cc1 := of_decide_eq_true cc1
  refine DWp.evs 3 rfl ?_
  refine DWp.g rfl rfl rfl rfl (Gives.indexAddrSlice (i) rfl rfl rfl rfl rfl rfl (by omega)) ?_
  refine DWp.load hm rfl rfl rfl rfl rfl rfl (hat i hi2) ?_
  refine DWp.evs 3 rfl ?_
  refine DWp.g rfl rfl rfl rfl (Gives.indexAddrSlice ((i - 1)) rfl rfl rfl rfl rfl e1 (by omega)) ?_
  refine DWp.load hm rfl rfl rfl rfl rfl rfl (hat (i - 1) (by omega)) ?_
  refine DWp.stepGrow rfl rfl rfl (Step.call rfl rfl rfl rfl rfl rfl ((orderC (ho.at hi2) (ho.at (by omega)) ?_)))
  refine ⟨fun _ hy => hy, ?_⟩
  refine DWp.evs 2 rfl ?_
  refine DWp.nil ?_
  refine Ct rfl (by omega) fun cc2 => ?_
  refine Wp.exit ?_
  refine Wp.region ?_
  refine Yz 3 rfl ?_
  exact ⟨i + 1, by omega, by omega, .cons rfl (.cons rfl (.cons rfl (.cons rfl (.cons' rfl (int_eq (i64_inc (by omega))) (.nil _))))), .refl _⟩
 have h1 := of_decide_eq_false h1
 refine Wp.exit ?_
 refine ⟨trivial, [], rfl, ?_⟩
 exact H
theorem pdqC {l : List T} {va : Option Addr} {vc : Nat} {lim : Int} (hlim : l.length = 0 ∨ lim ≠ 0) (hl : Reads S 3 (.slice va l.length vc) l.length (tcs l)) (ho : InOrder l) (hs : l.length ≤ 100000) (H : Q (.tuple #[]) S) :
  CallWp Tryz.prog B 144 #[.slice va l.length vc, .int .i64 0, .int .i64 (l.length : Int), .int .i64 lim, ordV] Q S := by
 have en : IntKind.i64.wrap ((l.length : Int) - 0) = (l.length : Int) := by rw [i64_id] <;> omega
 refine Yx (args := [_, _, _, _, _]) Tryz.func144 Tryz.ntmps144 ?_
 refine Yn 1 rfl ?_
 refine Yn 1 rfl ?_
 refine Wp.block ?_
 refine Wp.loopS (α := Unit) (fun _ => 0) (fun _ => [(0, .slice va l.length vc), (1, .int .i64 0), (2, .int .i64 (l.length : Int)), (3, .int .i64 lim), (4, ordV), (10, .bool true), (11, .bool true)]) (fun _ => S) (fun _ => True) () ?_ (.refl _) trivial ?_
 ·exact .cons rfl (.cons rfl (.cons rfl (.cons rfl (.cons rfl (.cons rfl (.cons rfl (.nil _)))))))
 rintro ⟨⟩ -
 refine Wp.block ?_
 refine Yn 4 rfl ?_
 refine Wp.seq ?_
 refine Yn 2 rfl ?_
 refine Wp.cond rfl (fun h1 => ?_) (fun h1 => ?_)
 ·have h1 := of_decide_eq_true h1
  refine Yg 4 rfl ?_
  refine Yc rfl rfl (insertC hl ho hs ?_)
  refine OWp.nil ?_
  refine Wp.ret ⟨trivial, [], rfl, ?_⟩
  exact H
 have h1 := of_decide_eq_false h1
 rw [en] at h1
 refine Wp.skip ?_
 refine Wp.seq ?_
 refine Yn 2 rfl ?_
 refine Ct rfl (by omega) fun cc1 => ?_
 refine Wp.skip ?_
 refine Wp.seq ?_
 refine Yn 2 rfl ?_
 refine Cn rfl ?_
 refine Wp.skip ?_
 refine Yg 4 rfl ?_
 refine Yc rfl rfl (pivotC hl ho (by omega) hs ?_)
 intro k
 refine Yz 5 rfl ?_
 refine Wp.seq ?_
 refine Yn 2 rfl ?_
 refine Ct rfl (by decide) fun cc2 => ?_
 refine Wp.skip ?_
 refine Wp.seq ?_
 refine Yg 2 rfl ?_
 refine Ye 3 rfl ?_
 refine Yz 3 rfl ?_
 refine Cv rfl (by decide) fun cc3 => ?_
 refine Yg 4 rfl ?_
 refine Yc rfl rfl (partialC hl ho (by omega) hs ?_)
 refine OWp.nil ?_
 refine Cy rfl ?_
 refine Wp.ret ⟨trivial, [], rfl, ?_⟩
 exact H
end
end Go.Proofs.E

namespace Go.Proofs.E
open Go.Lg Go.Whl
set_option maxRecDepth 100000

def tab8 : List UInt8 := [0, 1, 2, 2, 3, 3, 3, 3, 4, 4, 4, 4, 4, 4, 4, 4, 5, 5, 5, 5, 5, 5, 5, 5, 5, 5, 5, 5, 5, 5, 5, 5, 6, 6, 6, 6, 6, 6, 6, 6, 6, 6, 6, 6, 6, 6, 6, 6, 6, 6, 6, 6, 6, 6, 6, 6, 6, 6, 6, 6, 6, 6, 6, 6, 7, 7, 7, 7, 7, 7, 7, 7, 7, 7, 7, 7, 7, 7, 7, 7, 7, 7, 7, 7, 7, 7, 7, 7, 7, 7, 7, 7, 7, 7, 7, 7, 7, 7, 7, 7, 7, 7, 7, 7, 7, 7, 7, 7, 7, 7, 7, 7, 7, 7, 7, 7, 7, 7, 7, 7, 7, 7, 7, 7, 7, 7, 7, 7, 8, 8, 8, 8, 8, 8, 8, 8, 8, 8, 8, 8, 8, 8, 8, 8, 8, 8, 8, 8, 8, 8, 8, 8, 8, 8, 8, 8, 8, 8, 8, 8, 8, 8, 8, 8, 8, 8, 8, 8, 8, 8, 8, 8, 8, 8, 8, 8, 8, 8, 8, 8, 8, 8, 8, 8, 8, 8, 8, 8, 8, 8, 8, 8, 8, 8, 8, 8, 8, 8, 8, 8, 8, 8, 8, 8, 8, 8, 8, 8, 8, 8, 8, 8, 8, 8, 8, 8, 8, 8, 8, 8, 8, 8, 8, 8, 8, 8, 8, 8, 8, 8, 8, 8, 8, 8, 8, 8, 8, 8, 8, 8, 8, 8, 8, 8, 8, 8, 8, 8, 8, 8, 8, 8, 8, 8, 8, 8]
theorem tab8_at {z : Nat} (h : z < 256) : ∃ b, tab8[z]? = some b ∧ (z ≠ 0 → b.toNat ≠ 0) := by
 have : ∀ z, z < 256 → ((tab8[z]?).isSome && (z == 0 || (tab8.getD z 0).toNat != 0)) = true := by decide +kernel
 have h1 := this z h
 rw [Bool.and_eq_true] at h1
 obtain ⟨b, hb⟩ := Option.isSome_iff_exists.1 h1.1
 refine ⟨b, hb, fun hz => ?_⟩
 have h2 := h1.2
 rw [List.getD_eq_getElem?_getD, hb] at h2
 simpa [hz] using h2

section
variable {B : Nat} {S R : Ents} {Q : Value → Ents → Prop}

theorem bitsLenC {n : Nat} {zn : Int} (hzn : zn = (n : Int)) (hn : n ≤ 60000) (H : ∀ k : Int, (n = 0 ∨ k ≠ 0) → Q (.int .i64 k) S) : CallWp Tryz.prog B 194 #[.int .u64 zn] Q S := by
 subst hzn
 refine Yx (args := [_]) Tryz.func194 Tryz.ntmps194 ?_
 refine Yn 1 rfl ?_
 refine Wp.seq ?_
 refine Yn 2 rfl ?_
 refine Ct rfl (by omega) fun cc1 => ?_
 refine Wp.skip ?_
 refine Wp.seq ?_
 refine Yn 2 rfl ?_
 refine Ct rfl (by omega) fun cc2 => ?_
 refine Wp.skip ?_
 refine Wp.seqS (α := Nat × Nat) (fun z => [(0, .int .u64 (z.1 : Int)), (2, .int .i64 (z.2 : Int))]) (fun _ => S) (fun z => z.1 < 256 ∧ z.2 ≤ 8 ∧ (n = 0 ∨ z.1 ≠ 0)) ?_ ?_
 ·skip
  refine Yn 2 rfl ?_
  refine Wp.cond rfl (fun h1 => ?_) (fun h1 => ?_)
  ·have h1 := of_decide_eq_true h1
   refine Yn 3 rfl ?_
   refine Wp.region ?_
   refine Yz 3 rfl ?_
   refine ⟨(n / 256, 8), ⟨by simp only; omega, by simp only; omega, by simp only; omega⟩, .cons' rfl (int_eq ?_) (.cons' rfl (int_eq (by show IntKind.i64.wrap (0 + 8) = 8; decide)) (.nil _)), .refl _⟩
   rw [Int.fdiv_eq_ediv_of_nonneg _ (by decide)]; rfl
  have h1 := of_decide_eq_false h1
  refine Wp.skip ?_
  exact ⟨(n, 0), ⟨by simp only; omega, by simp only; omega, by simp only; omega⟩, .cons rfl (.cons rfl (.nil _)), .refl _⟩
 rintro ⟨z, k⟩ ⟨hz, hk, hnz⟩
 simp only at hz hk hnz ⊢
 obtain ⟨b, hb, hb0⟩ := tab8_at hz
 have hbl := b.toNat_lt
 have ez : IntKind.u8.wrap (z : Int) = (z : Int) := by rw [IntKind.wrap_u8]; omega
 refine Yg 3 rfl ?_
 refine OWp.g rfl rfl (Gives.indexStr (b := b) rfl rfl rfl rfl (by rw [ez]; omega) (by rw [ez]; exact hb)) ?_
 refine Yz 3 rfl ?_
 refine Wp.ret ⟨trivial, _, ⟨_, _, rfl, rfl, rfl⟩, ?_⟩
 refine H _ ?_
 rcases hnz with h | h
 ·exact .inl h
 ·have := hb0 h
  right
  rw [i64_id (x := ((b.toNat : Nat) : Int)) (by omega) (by omega), i64_id (by omega) (by omega)]
  omega
theorem bitsLen0C {n : Nat} {zn : Int} (hzn : zn = (n : Int)) (hn : n ≤ 60000) (H : ∀ k : Int, (n = 0 ∨ k ≠ 0) → Q (.int .i64 k) S) : CallWp Tryz.prog B 145 #[.int .u64 zn] Q S := by
 subst hzn
 refine Yx (args := [_]) Tryz.func145 Tryz.ntmps145 ?_
 refine Yn 1 rfl ?_
 refine Wp.seq ?_
 refine Cn rfl ?_
 refine Wp.skip ?_
 refine Yg 1 rfl ?_
 refine Yc rfl rfl (bitsLenC rfl hn ?_)
 intro k hk
 refine Yz 1 rfl ?_
 refine Wp.ret ⟨trivial, _, ⟨_, _, rfl, rfl, rfl⟩, ?_⟩
 exact H k hk
theorem sortC {l : List T} {va : Option Addr} {vc : Nat} (hl : Reads S 3 (.slice va l.length vc) l.length (tcs l)) (ho : InOrder l) (hs : l.length ≤ 60000) (H : Q (.tuple #[]) S) :
  CallWp Tryz.prog B 96 #[.slice va l.length vc, ordV] Q S := by
 refine Yx (args := [_, _]) Tryz.func96 Tryz.ntmps96 ?_
 refine Yn 3 rfl ?_
 refine Wp.region ?_
 refine Ye 4 rfl ?_
 refine Yc rfl rfl (bitsLen0C (n := l.length) (by rw [IntKind.wrap_u64]; omega) hs ?_)
 intro k hk
 refine Ye 1 rfl ?_
 refine Yc rfl rfl (pdqC (by omega) hl ho (by omega) ?_)
 refine OWp.nil ?_
 refine ⟨trivial, [], rfl, ?_⟩
 exact H
theorem minC {l : List T} {va : Option Addr} {vc : Nat} (hl : Reads S 3 (.slice va l.length vc) l.length (tcs l)) (h0 : 0 < l.length) (hs : l.length ≤ 60000) (hsm : ∀ t ∈ l, Small t) (H : ∀ t ∈ l, (∀ u ∈ l, t.due ≤ u.due) → Q (.agg (tc t).toArray) S) :
  CallWp Tryz.prog B 94 #[.slice va l.length vc, ordV] Q S := by
 obtain ⟨b1, o1, c1, L, e, fz, hv, hm, hat⟩ := timer_at hl h0
 cases hv
 have h00 := hat 0 h0
 refine CallWp.dropRet ?_
 refine Yx (args := [_, _]) Tryz.func94 Tryz.ntmps94 ?_
 refine Yq ?_
 refine Ya rfl rfl rfl rfl fun L4 hBL4 hLL4 => ?_
 refine OWp.nil ?_
 refine Wp.seq ?_
 refine Yn 3 rfl ?_
 refine Ct rfl (by omega) fun cc1 => ?_
 refine Wp.skip ?_
 refine Yg 1 rfl ?_
 refine OWp.g rfl rfl (Gives.indexAddrSlice (0) rfl rfl rfl rfl rfl rfl (by omega)) ?_
 refine OWp.load (.tail _ hm) rfl rfl rfl rfl (hat 0 h0) ?_
 refine Ya rfl rfl rfl rfl fun L5 hBL5 hLL5 => ?_
 refine OWp.step rfl (Step.storeAs 0 (tc l[0]) rfl rfl rfl rfl rfl hBL5 rfl (Unfz.zero _) rfl (Nat.le_of_ble_eq_true rfl) rfl rfl ?_)
 refine OWp.nil ?_
 refine Wp.seq ?_
 refine Yn 1 rfl ?_
 refine Wp.block ?_
 refine Wp.loopS (α := Nat × T) (fun z => l.length - z.1) (fun z => [(0, .slice (some ⟨b1, o1, none⟩) l.length vc), (1, ordV), (4, pt L4), (5, pt L5), (6, .int .i64 (z.1 : Int))]) (fun z => (L5, cel (tc z.2) 144) :: (L4, cel [.int .i64 0, .int .i64 0, .int .i64 0] 144) :: S) (fun z => 1 ≤ z.1 ∧ z.1 ≤ l.length ∧ z.2 ∈ l ∧ ∀ k (hk : k < l.length), k < z.1 → z.2.due ≤ l[k].due) (1, l[0]) ?_ (.refl _) ⟨Nat.le_refl _, h0, List.getElem_mem h0, fun k hk h1 => by simp only at h1; obtain rfl : k = 0 := (by omega); exact Nat.le_refl _⟩ ?_
 ·exact .cons rfl (.cons rfl (.cons rfl (.cons rfl (.cons rfl (.nil _)))))
 rintro ⟨i, t⟩ ⟨hi1, hi, ht, hmin⟩
 simp only at hi1 hi ht hmin ⊢
 refine Wp.seq ?_
 refine Yn 4 rfl ?_
 refine Wp.cond rfl (fun h1 => ?_) (fun h1 => ?_)
 ·have h1 := of_decide_eq_true h1
  have hi2 : i < l.length := by omega
  have hli := hsm l[i] (List.getElem_mem hi2)
  have hlt := hsm t ht
  refine Wp.skip ?_
  refine Wp.seq ?_
  refine Wp.block ?_
  refine Wp.seq (Wp.regionDraw [0, 1, 2, 3, 4, 5, 6, 7] [6] rfl (by decide +kernel) ?_)
  refine DWp.evs 3 rfl ?_
  refine DWp.g rfl rfl rfl rfl (Gives.indexAddrSlice (i) rfl rfl rfl rfl rfl rfl (by omega)) ?_
  refine DWp.load (.tail _ (.tail _ hm)) rfl rfl rfl rfl rfl rfl (hat i hi2) ?_
  refine Yd m0 ?_
  refine DWp.stepGrow rfl rfl rfl (Step.call rfl rfl rfl rfl rfl rfl ((orderC hli hlt ?_)))
  refine ⟨fun _ hy => hy, ?_⟩
  refine DWp.evs 1 rfl ?_
  refine DWp.nil ?_
  refine Wp.cond rfl (fun h2 => ?_) (fun h2 => ?_)
  ·have h2 := of_decide_eq_true h2
   refine Wp.region ?_
   refine Ye 2 rfl ?_
   refine OWp.g rfl rfl (Gives.indexAddrSlice (i) rfl rfl rfl rfl rfl rfl (by omega)) ?_
   refine OWp.load (.tail _ (.tail _ hm)) rfl rfl rfl rfl (hat i hi2) ?_
   refine OWp.step rfl (Step.storeAs 0 (tc l[i]) rfl rfl rfl rfl rfl hBL5 rfl (Unfz.zero _) rfl (Nat.le_of_ble_eq_true rfl) rfl rfl ?_)
   refine OWp.nil ?_
   refine Wp.region ?_
   refine Yz 3 rfl ?_
   have hle : l[i].due ≤ t.due := by unfold ordI at h2; split at h2 <;> omega
   refine ⟨(i + 1, l[i]), by simp only; omega, ⟨by simp only; omega, by simp only; omega, List.getElem_mem hi2, fun k hk hki => ?_⟩, .cons rfl (.cons rfl (.cons rfl (.cons rfl (.cons' rfl (int_eq (i64_inc (by omega))) (.nil _))))), .refl _⟩
   simp only at hki ⊢
   rcases Nat.lt_or_ge k i with h | h
   ·exact Nat.le_trans hle (hmin k hk h)
   ·obtain rfl : k = i := by omega
    exact Nat.le_refl _
  have h2 := of_decide_eq_false h2
  refine Wp.skip ?_
  refine Wp.region ?_
  refine Yz 3 rfl ?_
  have hle : t.due ≤ l[i].due := by unfold ordI at h2; split at h2 <;> omega
  refine ⟨(i + 1, t), by simp only; omega, ⟨by simp only; omega, by simp only; omega, ht, fun k hk hki => ?_⟩, .cons rfl (.cons rfl (.cons rfl (.cons rfl (.cons' rfl (int_eq (i64_inc (by omega))) (.nil _))))), .refl _⟩
  simp only at hki ⊢
  rcases Nat.lt_or_ge k i with h | h
  ·exact hmin k hk h
  ·obtain rfl : k = i := by omega
   exact hle
 have h1 := of_decide_eq_false h1
 obtain rfl : i = l.length := by omega
 refine Wp.exit ?_
 refine Yq ?_
 refine Yl m0 ?_
 refine OWp.step rfl (Step.storeAs 1 (tc t) rfl rfl rfl rfl rfl hBL4 rfl (Unfz.zero _) rfl (Nat.le_of_ble_eq_true rfl) rfl rfl ?_)
 have hp : Lg.partAt Tryz.prog 144 (tc t) 0 = some (.agg (tc t).toArray) := rfl
 refine OWp.nil ?_
 refine Wp.ret ⟨trivial, _, ⟨_, _, _, _, rfl, rfl, ⟨_, _, _, mems, (by first | assumption | rfl)⟩, rfl⟩, ?_⟩
 refine ⟨S, subl, H t ht fun u hu => ?_⟩
 obtain ⟨k, hk, rfl⟩ := List.mem_iff_getElem.1 hu
 exact hmin k hk hk
end
end Go.Proofs.E

namespace Go.Proofs.E
open Go.Lg Go.Whl
set_option maxRecDepth 100000

theorem tabM_at (now : Nat) (M : List T) {k i : Nat} (hi : i < 64) : tabM now M (64 * k + i) = slot now M k i := by
 unfold tabM
 rw [show (64 * k + i) / 64 = k by omega, show (64 * k + i) % 64 = i by omega]
theorem slot_out (now : Nat) (M : List T) {k i : Nat} (hi : 64 ≤ i) : slot now M k i = [] := by
 apply List.eq_nil_iff_forall_not_mem.2
 intro t ht
 obtain ⟨_, _, hd⟩ := mem_slot.1 ht
 have := dig_lt t.due k
 omega
theorem WOk.fit' {B : Nat} {M : List T} {now put : Nat} {v : Nat → Value} {es : Nat → Ents} (h : WOk B M now put v es) : Fit now M := fun t ht => ⟨(h.fit t ht).1, far_most (h.fit t ht).2⟩
theorem WOk.small {B : Nat} {M : List T} {now put : Nat} {v : Nat → Value} {es : Nat → Ents} (h : WOk B M now put v es) (hp : put ≤ 1099511627776) : ∀ t ∈ M, Small t := fun t ht => ⟨(h.fit t ht).2, Nat.le_trans (h.low t ht) hp⟩
theorem WOk.form {B : Nat} {M : List T} {now put : Nat} {v : Nat → Value} {es : Nat → Ents} (h : WOk B M now put v es) {j : Nat} (hj : j < 448) : ∃ a c, v j = .slice a (tabM now M j).length c := (h.slots j hj).reads.form

attribute [local irreducible] wv flatE tabM slotAt
section
variable {B : Nat} {S R : Ents} {Q : Value → Ents → Prop}

set_option maxHeartbeats 1000000 in
theorem firstC {p now put many : Nat} {M : List T} {v : Nat → Value} {es : Nat → Ents} (hw : WOk B M now put v es) (hp : put ≤ 1099511627776)
  (H0 : M = [] → Q (.tuple #[.agg #[.int .i64 0, .int .i64 0, .int .i64 0], .bool false]) (wE p v now put many :: (flatE es 448 ++ R)))
  (H1 : ∀ t ∈ M, (∀ u ∈ M, t.due ≤ u.due) → Q (.tuple #[.agg (tc t).toArray, .bool true]) (wE p v now put many :: (flatE es 448 ++ R))) :
  CallWp Tryz.prog B 46 #[pt p] Q (wE p v now put many :: (flatE es 448 ++ R)) := by
 have hn := far_most hw.time
 have hsm := hw.small hp
 refine CallWp.dropRet ?_
 refine Yx (args := [_]) Tryz.func46 Tryz.ntmps46 ?_
 refine Yq ?_
 refine Ya rfl rfl rfl rfl fun L2 hBL2 hLL2 => ?_
 refine Yz 1 rfl ?_
 refine Wp.scope ?_
 refine Yn 1 rfl ?_
 refine Wp.seq ?_
 refine Wp.label ?_
 refine Wp.seq ?_
 refine Yn 1 rfl ?_
 refine Wp.block ?_
 refine Wp.loopS (α := Nat × Option Addr × Nat) (fun z => 7 - z.1) (fun z => [(0, pt p), (2, pt L2), (4, .slice z.2.1 0 z.2.2), (7, .int .i64 (z.1 : Int))]) (fun _ => (L2, cel [.int .i64 0, .int .i64 0, .int .i64 0] 144) :: wE p v now put many :: (flatE es 448 ++ R)) (fun z => z.1 ≤ 7 ∧ ∀ k' i', k' < z.1 → dig now k' ≤ i' → slot now M k' i' = []) (0, none, 0) ?_ (.refl _) ⟨Nat.zero_le _, fun _ _ h => by simp only at h; omega⟩ ?_
 ·exact .cons rfl (.cons rfl (.cons rfl (.cons rfl (.nil _))))
 rintro ⟨k, fa, fc⟩ ⟨hk, hemp⟩
 simp only at hk hemp ⊢
 refine Yn 1 rfl ?_
 refine Wp.seq ?_
 refine Wp.cond rfl (fun h1 => ?_) (fun h1 => ?_)
 ·have h1 := of_decide_eq_true h1
  have hk2 : k < 7 := by omega
  have hdn := dig_lt now k
  refine Wp.skip ?_
  refine Wp.seq ?_
  refine Wp.block ?_
  refine Yn 2 rfl ?_
  refine Yg 3 rfl ?_
  refine OWp.load (.tail _ (.head _)) rfl rfl rfl rfl (wv_now rfl) ?_
  refine Ye 1 rfl ?_
  refine Yc rfl rfl (digitC rfl rfl hn (by omega) ?_)
  refine Yz 1 rfl ?_
  refine Wp.block ?_
  refine Wp.loopS (α := Nat × Option Addr × Nat) (fun z => 64 - z.1) (fun z => [(0, pt p), (2, pt L2), (4, .slice z.2.1 0 z.2.2), (5, .int .i64 (k : Int)), (6, .int .i64 (z.1 : Int)), (7, .int .i64 (k : Int))]) (fun _ => (L2, cel [.int .i64 0, .int .i64 0, .int .i64 0] 144) :: wE p v now put many :: (flatE es 448 ++ R)) (fun z => dig now k ≤ z.1 ∧ z.1 ≤ 64 ∧ ∀ i', dig now k ≤ i' → i' < z.1 → slot now M k i' = []) (dig now k, fa, fc) ?_ (.refl _) ⟨Nat.le_refl _, Nat.le_of_lt hdn, fun _ h1 h2 => by simp only at h2; omega⟩ ?_
  ·exact .cons rfl (.cons rfl (.cons rfl (.cons rfl (.cons rfl (.cons rfl (.nil _))))))
  rintro ⟨i, ga, gc⟩ ⟨hi1, hi, hemp2⟩
  simp only at hi1 hi hemp2 ⊢
  refine Wp.seq ?_
  refine Yn 2 rfl ?_
  refine Wp.cond rfl (fun h2 => ?_) (fun h2 => ?_)
  ·have h2 := of_decide_eq_true h2
   have hi2 : i < 64 := by omega
   have hj : 64 * k + i < 448 := by omega
   obtain ⟨a, c, hv⟩ := hw.form hj
   refine Wp.skip ?_
   refine Wp.seq ?_
   refine Wp.block ?_
   refine Yg 5 rfl ?_
   refine OWp.g rfl rfl (Gives.indexAddrArr (k) rfl rfl rfl rfl rfl rfl (by omega)) ?_
   refine OWp.g rfl rfl (Gives.indexAddrArr (i) rfl rfl rfl rfl rfl rfl (by omega)) ?_
   refine OWp.load (.tail _ (.head _)) rfl rfl rfl rfl ((wv_slot hj (by show 0 + 0 + k * 64 + i * 1 = 64 * k + i; omega)).trans (congrArg some hv)) ?_
   refine Yz 1 rfl ?_
   refine Yn 3 rfl ?_
   refine Wp.cond rfl (fun h3 => ?_) (fun h3 => ?_)
   ·have h3 := of_decide_eq_true h3
    have hne : 0 < (tabM now M (64 * k + i)).length := by omega
    have hin : ∀ t ∈ tabM now M (64 * k + i), t ∈ M := fun t ht => by rw [tabM_at now M hi2] at ht; exact (mem_slot.1 ht).1
    refine Wp.exit ?_
    refine Wp.seq ?_
    refine Yn 3 rfl ?_
    refine Ct rfl (by omega) fun cc1 => ?_
    refine Wp.skip ?_
    refine Yg 1 rfl ?_
    refine Yc rfl rfl (minC (l := tabM now M (64 * k + i)) (by have := (hw.slots _ hj).reads; rw [hv] at this; exact this.mono fun x hx => .tail _ (.tail _ (List.mem_append_left _ (flatE_mem hx hj)))) hne (by have := tabM_len now M (64 * k + i); have := hw.len; omega) (fun t ht => hsm t (hin t ht)) ?_)
    intro t ht hmin
    refine OWp.step rfl (Step.storeAs 0 (tc t) rfl rfl rfl rfl rfl hBL2 rfl (Unfz.zero _) rfl (Nat.le_of_ble_eq_true rfl) rfl rfl ?_)
    have hpart : Lg.partAt Tryz.prog 144 (tc t) 0 = some (.agg (tc t).toArray) := rfl
    refine Yz 1 rfl ?_
    refine Wp.ret ⟨trivial, _, ⟨_, _, _, _, rfl, rfl, ⟨_, _, _, mems, (by first | assumption | rfl)⟩, ⟨_, _, rfl, rfl, rfl⟩⟩, ?_⟩
    refine ⟨_, List.sublist_cons_self _ _, H1 t (hin t ht) fun u hu => ?_⟩
    rcases Nat.lt_or_ge u.due t.due with h | h
    ·rw [tabM_at now M hi2] at ht hmin
     exact hmin u (first_least hn hw.fit' hemp hemp2 ht hu h)
    ·exact h
   have h3 := of_decide_eq_false h3
   refine Wp.skip ?_
   refine Wp.region ?_
   refine Yz 3 rfl ?_
   have hz : tabM now M (64 * k + i) = [] := List.eq_nil_of_length_eq_zero (by omega)
   refine ⟨(i + 1, a, c), by simp only; omega, ⟨by simp only; omega, by simp only; omega, fun i' h4 h5 => ?_⟩, .cons rfl (.cons rfl (.cons' rfl (by simp only; rw [hz]; rfl) (.cons rfl (.cons' rfl (int_eq (i64_inc (by omega))) (.cons rfl (.nil _)))))), .refl _⟩
   simp only at h5
   rcases Nat.lt_or_ge i' i with h | h
   ·exact hemp2 i' h4 h
   ·obtain rfl : i' = i := by omega
    rw [← tabM_at now M hi2]; exact hz
  have h2 := of_decide_eq_false h2
  obtain rfl : i = 64 := by omega
  refine Wp.exit ?_
  refine Wp.region ?_
  refine Yz 2 rfl ?_
  refine ⟨(k + 1, ga, gc), by simp only; omega, ⟨by simp only; omega, fun k' i' h4 h5 => ?_⟩, .cons rfl (.cons rfl (.cons rfl (.cons' rfl (int_eq (i64_inc (by omega))) (.nil _)))), .refl _⟩
  simp only at h4
  rcases Nat.lt_or_ge k' k with h | h
  ·exact hemp k' i' h h5
  ·obtain rfl : k' = k := by omega
   rcases Nat.lt_or_ge i' 64 with h6 | h6
   ·exact hemp2 i' h5 h6
   ·exact slot_out now M h6
 have h1 := of_decide_eq_false h1
 refine Wp.exit ?_
 refine Wp.seq ?_
 refine Yn 3 rfl ?_
 refine Cv rfl (by decide) fun cc2 => ?_
 refine Yq ?_
 refine OWp.g rfl rfl (Gives.build rfl rfl) ?_
 refine OWp.step rfl (Step.storeAs 0 [.int .i64 0, .int .i64 0, .int .i64 0] rfl rfl rfl rfl rfl hBL2 rfl (Unfz.zero _) rfl (Nat.le_of_ble_eq_true rfl) rfl rfl ?_)
 have hpart : Lg.partAt Tryz.prog 144 [.int .i64 0, .int .i64 0, .int .i64 0] 0 = some (.agg #[.int .i64 0, .int .i64 0, .int .i64 0]) := rfl
 refine Yz 1 rfl ?_
 refine Wp.ret ⟨trivial, _, ⟨_, _, _, _, rfl, rfl, ⟨_, _, _, mems, (by first | assumption | rfl)⟩, ⟨_, _, rfl, rfl, rfl⟩⟩, ?_⟩
 refine ⟨_, List.sublist_cons_self _ _, H0 ?_⟩
 by_cases hM : M = []
 ·exact hM
 ·obtain ⟨k', i', h4, _, h6, h7⟩ := some_slot hn hw.fit' hM
  exact absurd (hemp k' i' (by omega) h6) h7
end
end Go.Proofs.E
