/- What functions of the given program do, one after the other, told by that layer. -/
import Derived.Test.YtlfhhkdjahcglaaGreatDoorKM9x5df7
namespace Go.Proofs.C
open Go.Lg
set_option maxRecDepth 100000

theorem mayP_nat {most mean : Int} (h : mayP most [mean]) : most = (most.toNat : Int) ∧ mean = (mean.toNat : Int) ∧ most.toNat ≤ 4096 ∧ mean.toNat ≤ 4096 := by
 obtain ⟨h1, h2, h3⟩ := h
 have := h3 mean (by simp)
 omega

theorem _root_.Go.Lg.Own.cap_le {B : Nat} {e : TypeId} {sz k len cap : Nat} {a : Option Addr} {xs : List Value} {es : Ents} (h : Lg.Own B e sz (.slice a len cap) k xs es) : k ≤ cap ∧ len = k := by
 obtain ⟨_, ⟨hv, rfl, _⟩ | ⟨b, cap', cur, hv, _, _, hk, _⟩⟩ := h
 ·cases hv; exact ⟨Nat.le_refl _, rfl⟩
 ·cases hv; exact ⟨hk, rfl⟩
theorem drawR_yes {s : List UInt8} {mean most : Int} {k : Nat} (hm : mayP most [mean]) (h : k + 4 ≤ s.length) : drawR s mean most k = (dl mean.toNat (word s k) most.toNat, 0, k + 4) := by
 unfold drawR
 rw [if_neg (by simpa using hm), if_neg (by omega)]
section
variable {B : Nat} {S R : Ents} {Q : Value → Ents → Prop} {p k : Nat} {s : List UInt8} {hv mv sv : Value} {h0 : List Nd} {ms : List (List Nd)} {ss : List St} {a b : Nd} {h : Hop} {mean most : Int}
theorem tableY (hm : mayP most [mean]) (H0 : ∀ L u l, B ≤ L → Q (.tuple #[u, .int .i64 0]) ((L, cel l 3) :: S)) : CallWp Tryz.prog B 58 #[.int .i64 mean, .int .i64 most] Q S := by
 obtain ⟨h1, h2, h3, h4⟩ := mayP_nat hm
 rw [h1, h2]
 exact table_yes h3 h4 fun L hL _ => H0 L _ _ hL

set_option maxHeartbeats 4000000 in
theorem drawWC (hB : B ≤ p) (hs : s.length ≤ lim) (hk : k ≤ s.length) (hT : TIn R hv mv sv h0 ms ss) (hok : TownOk (h0 :: ms) ss)
  (H : ∀ pv qv es1 es2, Lg.Own B 9 1 pv (wayR s k a b ms h mean most).1.length (txt (wayR s k a b ms h mean most).1) es1 →
   Lg.Own B 75 5 qv (wayR s k a b ms h mean most).2.1.length ((wayR s k a b ms h mean most).2.1.flatMap Hop.cells) es2 →
   Q (.tuple #[.agg #[pv, qv], .int .i64 (wayR s k a b ms h mean most).2.2.1]) (tp p s (wayR s k a b ms h mean most).2.2.2 :: (es1 ++ (es2 ++ R)))) :
  CallWp Tryz.prog B 108 #[.agg #[hv, mv, sv], pt p, .agg (ndc a).toArray, .agg (ndc b).toArray, .agg h.cells.toArray, .agg #[.int .i64 mean, .int .i64 most]] Q (tp p s k :: R) := by
 obtain ⟨a1, c1, a2, c2, a3, c3, rfl, rfl, rfl⟩ := hT.forms
 have hnl : ms.length ≤ 3 := by have := hok.1.2.1; simp only [List.length_cons] at this; omega
 refine subRet ?_
 refine Yx (args := [_, _, _, _, _, _]) Tryz.func108 Tryz.ntmps108 ?_
 refine Yq ?_
 refine Yb rfl rfl rfl rfl fun L6 hBL6 hLL6 => ?_
 refine Yb rfl rfl rfl rfl fun L8 hBL8 hLL8 => ?_
 refine Yb rfl rfl rfl rfl fun L9 hBL9 hLL9 => ?_
 refine Yb rfl rfl rfl rfl fun L10 hBL10 hLL10 => ?_
 refine Yb rfl rfl rfl rfl fun L11 hBL11 hLL11 => ?_
 refine Ya rfl rfl rfl rfl fun L12 hBL12 hLL12 => ?_
 refine Yz 1 rfl ?_
 refine Wp.seq ?_
 refine Yg 1 rfl ?_
 refine Yl m1 ?_
 refine Ye 1 rfl ?_
 refine Yl m1 ?_
 by_cases hm : mayP most [mean]
 ·skip
  refine Yc rfl rfl (tableY hm ?_)
  intro LT uT lT hBT
  refine Yz 5 rfl ?_
  refine Yn 2 rfl ?_
  refine Cu rfl (by exact fun h => h rfl) fun cc1 => ?_
  refine Wp.skip ?_
  refine Wp.seq ?_
  refine Wp.seq (Wp.regionDraw [0, 1, 2, 3, 4, 5, 7, 6, 8, 9, 10, 11] [6, 8] rfl (by decide +kernel) ?_)
  refine DWp.evs 3 rfl ?_
  refine DWp.evs 3 rfl ?_
  refine Yd (.tail _ (.tail _ (.tail _ (.tail _ (.tail _ (.tail _ (.head _))))))) ?_
  refine DWp.stepGrow rfl rfl rfl (Step.call rfl rfl rfl rfl rfl rfl ((left (s := s) (k := k) (.tail _ (.tail _ (.tail _ (.tail _ (.tail _ (.tail _ (.tail _ (.head _)))))))) hk hs ?_)))
  refine ⟨fun _ hy => hy, ?_⟩
  refine DWp.step rfl rfl rfl (Step.call rfl rfl rfl rfl rfl rfl ((wordsC (hT.mono fun _ h => .tail _ (.tail _ (.tail _ (.tail _ (.tail _ (.tail _ (.tail _ (.tail _ h)))))))) ?_)))
  intro n hn
  have hn2 : n = 2 * (ms.length : Int) + 1 := by
   rcases hn with ⟨_, hn⟩ | ⟨hn, _⟩
   ·simpa using hn
   ·exact absurd hok hn
  subst hn2
  refine prs ?_
  by_cases ht : s.length - k < 4 * (2 * ms.length + 1)
  ·skip
   refine DWp.evs 3 rfl ?_
   refine DWp.nil ?_
   refine Cv rfl (by rw [i64_id] <;> omega) fun cc2 => ?_
   refine Yq ?_
   refine OWp.g rfl rfl (Gives.build rfl rfl) ?_
   refine OWp.step rfl (Step.storeAs 1 [.slice none 0 0, .slice none 0 0] rfl rfl rfl rfl rfl hBL12 rfl (Unfz.zero _) rfl (Nat.le_of_ble_eq_true rfl) rfl rfl ?_)
   refine Yz 1 rfl ?_
   refine Wp.ret ⟨trivial, _, ⟨_, _, _, _, rfl, rfl, ⟨_, _, _, mems, (by first | assumption | rfl)⟩, ⟨_, _, rfl, rfl, rfl⟩⟩, ?_⟩
   have e : wayR s k a b ms h mean most = ([], [], 120, k) := by unfold wayR; rw [if_neg (by simpa using hm), if_pos ht]
   rw [e] at H
   exact ⟨_, _, .refl _, subl, H _ _ _ _ (Own.nil _ _ _) (Own.nil _ _ _)⟩
  refine DWp.evs 3 rfl ?_
  refine DWp.nil ?_
  refine Ct rfl (by rw [i64_id] <;> omega) fun cc3 => ?_
  have hlen : k + 4 * (2 * ms.length + 1) ≤ s.length := by omega
  obtain ⟨vs, hmr, hvs, hn, hvl, _⟩ := id hT
  have hn1 := hn.1
  simp only [List.length_cons, Nat.add_right_cancel_iff] at hn1
  rw [hn1] at hmr
  refine Wp.skip ?_
  refine Yq ?_
  refine Yl (.tail _ (.tail _ (.tail _ (.tail _ (.tail _ (.head _)))))) ?_
  refine OWp.step rfl (Step.buildSlice rfl rfl rfl ?_); intro Ll hBLl hLLl
  refine Yz 1 rfl ?_
  refine Wp.seq ?_
  refine Yg 1 rfl ?_
  refine Yl (.tail _ (.tail _ (.tail _ (.tail _ (.tail _ (.tail _ (.tail _ (.head _)))))))) ?_
  refine Yz 2 rfl ?_
  obtain ⟨M, hM⟩ : ∃ M : Ents, M = [(L12, cel [.slice none 0 0, .slice none 0 0] 162), (L11, cel [.int .i64 mean, .int .i64 most] 31), (L10, cel h.cells 75), (L9, cel (ndc b) 135), (L8, cel (ndc a) 135), (L6, cel [.slice a1 h0.length c1, .slice a2 ms.length c2, .slice a3 ss.length c3] 28)] ++ R := ⟨_, rfl⟩
  have hMR : ∀ x ∈ R, x ∈ M := fun x hx => by rw [hM]; exact List.mem_append_right _ hx
  show Wp _ _ _ _ _ _ _
  refine Wp.permS (S' := (LT, cel lT 3) :: tp p s k :: ((Ll, cel (ndc a) 135) :: M)) (hM ▸ permBy [[(Ll, cel (ndc a) 135)], [(LT, cel lT 3)], [(L12, cel [.slice none 0 0, .slice none 0 0] 162), (L11, cel [.int .i64 mean, .int .i64 most] 31), (L10, cel h.cells 75), (L9, cel (ndc b) 135), (L8, cel (ndc a) 135), (L6, cel [.slice a1 h0.length c1, .slice a2 ms.length c2, .slice a3 ss.length c3] 28)], [tp p s k]] R [0, 1, 2, 3] [1, 3, 0, 2] (by decide)) ?_
  refine Wp.drop (List.sublist_cons_self _ _) ?_
  refine Wp.block ?_
  refine Wp.loopS (α := Nat × Value × Ents) (fun z => ms.length - z.1) (fun z => [(1, pt p), (8, pt L8), (9, pt L9), (10, pt L10), (11, pt L11), (12, pt L12), (13, .int .i64 0), (16, z.2.1), (54, .slice a2 ms.length c2), (55, .int .i64 (ms.length : Int)), (56, .int .i64 (z.1 : Int))]) (fun z => tp p s (k + 4 * z.1) :: (z.2.2 ++ M)) (fun z => z.1 ≤ ms.length ∧ Lg.Own B 135 2 z.2.1 (z.1 + 1) ((a :: picks s k ms z.1).flatMap ndc) z.2.2) (0, .slice (some ⟨Ll, 0, none⟩) 1 1, [(Ll, cel (ndc a) 135)]) ?_ ?_ ⟨Nat.zero_le _, Own.row hBLl rfl (by decide)⟩ ?_
  ·exact .cons rfl (.cons rfl (.cons rfl (.cons rfl (.cons rfl (.cons rfl (.cons rfl (.cons rfl (.cons rfl (.cons rfl (.cons rfl (.nil _)))))))))))
  ·exact .refl _
  rintro ⟨i, lv, es⟩ ⟨hi, ho⟩
  simp only at hi ho ⊢
  refine Yn 1 rfl ?_
  refine Wp.seq ?_
  refine Wp.cond rfl (fun g1 => ?_) (fun g1 => ?_)
  ·have g1 := of_decide_eq_true g1
   have hi1 : i < ms.length := by omega
   obtain ⟨b2, o2, c2', l2, t2, f2, hv2, hm2, _, hg2⟩ := hmr.get1 (by omega)
   cases hv2
   obtain ⟨hnr, hnl2⟩ := hn.2 (i + 1) vs[i] ms[i] (by simp) (by simp)
   obtain ⟨hy1, hy2⟩ := layer_small hok (List.getElem_mem hi1)
   obtain ⟨b3, o3, c3', l3, t3, f3, hv3, hm3, hat3⟩ := nd_at hnr (by omega)
   have hgi : l2[o2 + i * 1]? = some (.slice (some ⟨b3, o3, none⟩) ms[i].length c3') := by rw [hg2 i (by omega), ← hv3]; simp
   refine Wp.skip ?_
   refine Wp.seq ?_
   refine Wp.block ?_
   refine Yq ?_
   refine OWp.g rfl rfl (Gives.indexAddrSlice (i) rfl rfl rfl rfl rfl rfl (by omega)) ?_
   refine OWp.load (.tail _ (List.mem_append_right _ (hMR _ hm2))) rfl rfl rfl rfl hgi ?_
   refine Yz 1 rfl ?_
   refine Yg 3 rfl ?_
   refine Yc rfl rfl (belowC hB hs (by omega) ?_)
   rw [belowR_yes (by omega) hy1 (by omega)]
   have hw := pick_lt (s := s) (k := k + 4 * i) (n := ms[i].length) (by omega)
   refine Yz 5 rfl ?_
   refine Wp.region ?_
   refine Ye 3 rfl ?_
   refine OWp.g rfl rfl (Gives.indexAddrSlice (word s (k + 4 * i) * ms[i].length / 4294967296) rfl rfl rfl rfl rfl rfl hw) ?_
   refine OWp.load (.tail _ (List.mem_append_right _ (hMR _ hm3))) rfl rfl rfl rfl (hat3 _ hw) ?_
   refine OWp.step rfl (Step.buildSlice rfl rfl rfl ?_); intro Lp4 hBLp4 hLLp4
   refine OWp.step rfl (Step.appendAt [_, _] rfl rfl rfl rfl rfl rfl (by decide) rfl rfl ho (Reads.row (k := 1) (sz := 2) (.head _) (Nat.le_of_ble_eq_true rfl)) rfl (by show (_ + 1) * 24 ≤ _; omega) (by unfold maxLen; omega) ?_); intro lv2 es2 ho2 _
   refine OWp.dropAt 0 rfl ?_
   refine Yz 1 rfl ?_
   refine Wp.region ?_
   refine Yz 2 rfl ?_
   refine ⟨(i + 1, lv2, es2), by simp only; omega, ⟨by simp only; omega, ?_⟩, .cons rfl (.cons rfl (.cons rfl (.cons rfl (.cons rfl (.cons rfl (.cons rfl (.cons rfl (.cons rfl (.cons rfl (.cons' rfl (int_eq (by simp only; rw [i64_id] <;> omega)) (.nil _))))))))))), ?_⟩
   ·simp only
    rw [picks_snoc, ← List.cons_append, List.flatMap_append]
    have e : pick s k ms i = ms[i][word s (k + 4 * i) * ms[i].length / 4294967296] := by simp [pick, hi1, hw]
    rw [e]
    rw [List.flatMap_singleton]
    exact ho2
   ·exact .refl _
  have g1 := of_decide_eq_false g1
  obtain rfl : i = ms.length := by omega
  refine Wp.exit ?_
  refine Yg 1 rfl ?_
  refine Yl (.tail _ (List.mem_append_right _ (by rw [hM]; exact .tail _ (.tail _ (.tail _ (.head _)))))) ?_
  refine OWp.step rfl (Step.buildSlice rfl rfl rfl ?_); intro Lp5 hBLp5 hLLp5
  refine OWp.step rfl (Step.appendAt [_, _] rfl rfl rfl rfl rfl rfl (by decide) rfl rfl ho (Reads.row (k := 1) (sz := 2) (.head _) (Nat.le_of_ble_eq_true rfl)) rfl (by show (_ + 1) * 24 ≤ _; omega) (by unfold maxLen; omega) ?_); intro lv3 es3 ho3 _
  refine OWp.dropAt 0 rfl ?_
  refine Yz 1 rfl ?_
  refine Yq ?_
  refine Ya rfl rfl rfl rfl fun L21 hBL21 hLL21 => ?_
  obtain ⟨N, hN⟩ : ∃ N, N = wayN s k a b ms := ⟨_, rfl⟩
  have hNl : N.length = ms.length + 2 := by rw [hN, wayN_len]
  have ho4 : Lg.Own B 135 2 lv3 N.length (N.flatMap ndc) es3 := by
   have e : N.flatMap ndc = (a :: picks s k ms ms.length).flatMap ndc ++ ndc b := by rw [hN]; unfold wayN; rw [← List.cons_append, List.flatMap_append, List.flatMap_singleton]
   rw [e, hNl]
   exact ho3
  obtain ⟨b4, o4, c4, l4, t4, f4, hv4, hm4, hat4⟩ := nd_at ho4.reads (by omega)
  subst hv4
  have hcap := ho4.cap_le
  obtain ⟨b5, o5, c5, l5, t5, f5, hv5, hm5, hat5⟩ := ncell_at ho4.reads (by omega)
  cases hv5
  refine OWp.nil ?_
  refine Wp.seq ?_
  refine Yg 1 rfl ?_
  refine OWp.g rfl rfl (Gives.sliceSlice (l := 1) (h' := N.length) rfl rfl rfl rfl ⟨_, _, rfl, rfl⟩ rfl (by omega) (by omega) (by omega)) ?_
  refine Yz 2 rfl ?_
  refine Wp.block ?_
  refine Wp.loopS (α := Nat × (Value × Ents) × (Value × Ents)) (fun z => ms.length + 1 - z.1) (fun z => [(1, pt p), (9, pt L9), (10, pt L10), (11, pt L11), (12, pt L12), (13, .int .i64 0), (16, .slice (some ⟨b4, o4, none⟩) N.length c4), (21, pt L21), (80, .slice (some ⟨b4, o4 + 1 * 2, none⟩) (N.length - 1) (c4 - 1)), (81, .int .i64 ((ms.length + 1 : Nat) : Int)), (82, .int .i64 (z.1 : Int))]) (fun z => tp p s (k + 4 * (ms.length + z.1)) :: (L21, cel [z.2.1.1, z.2.2.1] 162) :: (z.2.1.2 ++ (z.2.2.2 ++ (es3 ++ M)))) (fun z => z.1 ≤ ms.length + 1 ∧ Lg.Own B 9 1 z.2.1.1 z.1 (txt ((N.take z.1).map (·.2))) z.2.1.2 ∧ Lg.Own B 75 5 z.2.2.1 z.1 ((hopsW s k mean most ms.length N z.1).flatMap Hop.cells) z.2.2.2) (0, (.slice none 0 0, []), (.slice none 0 0, [])) ?_ (.swap _ _ _) ⟨Nat.zero_le _, Own.nil _ _ _, Own.nil _ _ _⟩ ?_
  ·exact .cons rfl (.cons rfl (.cons rfl (.cons rfl (.cons rfl (.cons rfl (.cons rfl (.cons rfl (.cons rfl (.cons' rfl (int_eq (by rw [hNl]; rfl)) (.cons rfl (.nil _)))))))))))
  rintro ⟨j, ⟨pv, e1⟩, ⟨qv, e2⟩⟩ ⟨hj, hop, hoq⟩
  simp only at hj hop hoq ⊢
  refine Yn 1 rfl ?_
  refine Wp.seq ?_
  refine Wp.cond rfl (fun g2 => ?_) (fun g2 => ?_)
  ·have g2 := of_decide_eq_true g2
   have hj1 : j < ms.length + 1 := by omega
   refine Wp.skip ?_
   refine Wp.seq ?_
   refine Wp.block ?_
   refine Yg 1 rfl ?_
   refine OWp.g rfl rfl (Gives.indexAddrSlice (j) rfl rfl rfl rfl rfl rfl (by omega)) ?_
   refine OWp.load (.tail _ (.tail _ (List.mem_append_right _ (List.mem_append_right _ (List.mem_append_left _ hm4))))) rfl rfl rfl rfl ((congrArg (Lg.partAt Tryz.prog 135 l4) (show o4 + 1 * 2 + j * 2 = o4 + (j + 1) * 2 by omega)).trans (hat4 (j + 1) (by omega))) ?_
   refine Ya rfl rfl rfl rfl fun L23 hBL23 hLL23 => ?_
   refine Ye 1 rfl ?_
   refine OWp.step rfl (Step.storeAs 0 (ndc N[j + 1]) rfl rfl rfl rfl rfl hBL23 rfl (Unfz.zero _) rfl (Nat.le_of_ble_eq_true rfl) rfl rfl ?_)
   have h11 : (L11, cel [.int .i64 mean, .int .i64 most] 31) ∈ M := by rw [hM]; exact .tail _ (.head _)
   refine OWp.nil ?_
   refine Yg 2 rfl ?_
   refine Yl (.tail _ (.tail _ (.tail _ (List.mem_append_right _ (List.mem_append_right _ (List.mem_append_right _ h11)))))) ?_
   refine Ye 1 rfl ?_
   refine Yl (.tail _ (.tail _ (.tail _ (List.mem_append_right _ (List.mem_append_right _ (List.mem_append_right _ h11)))))) ?_
   refine Yc rfl rfl (CallWp.focus 1 rfl ((drawC hB hs (by omega) ?_)))
   rw [drawR_yes hm (by omega)]
   refine Yz 5 rfl ?_
   refine Wp.seq (Wp.regionDraw [0, 1, 2, 3, 4, 5, 6, 7, 8, 9, 10] [7, 8, 10] rfl (by decide +kernel) ?_)
   refine DWp.evs 1 rfl ?_
   refine Yd m2 ?_
   refine DWp.evs 2 rfl ?_
   refine DWp.g rfl rfl rfl rfl (Gives.indexAddrSlice (j) rfl rfl rfl rfl rfl rfl (by omega)) ?_
   refine DWp.evs 1 rfl ?_
   refine DWp.load (.tail _ (.tail _ (.tail _ (List.mem_append_right _ (List.mem_append_right _ (List.mem_append_left _ hm5)))))) rfl rfl rfl rfl rfl rfl (hat5 j (by omega)).2 ?_
   refine DWp.step rfl rfl rfl (Step.buildSlice rfl rfl rfl ?_); intro Lq hBLq hLLq
   refine prs ?_
   refine DWp.step rfl rfl rfl (Step.appendAt [_, _, _, _] rfl rfl rfl rfl rfl rfl (by decide) rfl rfl hop (Reads.row (k := 1) (sz := 1) (.head _) (Nat.le_of_ble_eq_true rfl)) rfl (by show (_ + 1) * 16 ≤ _; omega) (by unfold maxLen; omega) ?_)
   intro pv2 e12 hop2 _
   obtain ⟨pa, pc, rfl⟩ := hop2.reads.form
   refine prs ?_
   refine DWp.evs 1 rfl ?_
   refine DWp.step rfl rfl rfl (Step.storeAs 3 ([.slice pa (j + 1) pc, qv]) rfl rfl rfl rfl rfl (by assumption) rfl (Unfz.zero _) rfl (Nat.le_of_ble_eq_true rfl) rfl rfl ?_)
   refine prs ?_
   refine DWp.nil ?_
   refine Wp.region ?_
   refine Ye 1 rfl ?_
   refine Yl m3 ?_
   refine Ye 1 rfl ?_
   refine Yl m2 ?_
   refine Ye 1 rfl ?_
   refine OWp.g rfl rfl (Gives.build rfl rfl) ?_
   refine OWp.step rfl (Step.buildSlice rfl rfl rfl ?_); intro Lr hBLr hLLr
   refine OWp.step rfl (Step.appendAt ((Lr, _) :: (Lq, _) :: (p, _) :: (L23, _) :: (L21, _) :: e12) rfl rfl rfl rfl rfl rfl (by decide) rfl rfl hoq (Reads.row (k := 1) (sz := 5) (.head _) (Nat.le_of_ble_eq_true rfl)) rfl (by show (_ + 1) * 48 ≤ _; omega) (by unfold maxLen; omega) ?_)
   intro qv2 e22 hoq2 _
   obtain ⟨qa, qc, rfl⟩ := hoq2.reads.form
   refine Ye 1 rfl ?_
   refine OWp.step rfl (Step.storeAs 4 ([.slice pa (j + 1) pc, .slice qa (j + 1) qc]) rfl rfl rfl rfl rfl (by assumption) rfl (Unfz.zero _) rfl (Nat.le_of_ble_eq_true rfl) rfl rfl ?_)
   refine OWp.nil ?_
   refine Wp.drop (S' := tp p s (k + 4 * (ms.length + j) + 4) :: (L21, cel [.slice pa (j + 1) pc, .slice qa (j + 1) qc] 162) :: (e12 ++ (e22 ++ (es3 ++ M)))) (.cons _ (.cons _ (.cons_cons _ (.cons _ (.refl _))))) ?_
   refine Wp.region ?_
   refine Yz 2 rfl ?_
   refine ⟨(j + 1, (.slice pa (j + 1) pc, e12), (.slice qa (j + 1) qc, e22)), by simp only; omega, ⟨by simp only; omega, ?_, ?_⟩, .cons rfl (.cons rfl (.cons rfl (.cons rfl (.cons rfl (.cons rfl (.cons rfl (.cons rfl (.cons rfl (.cons rfl (.cons' rfl (int_eq (by simp only; rw [i64_id] <;> omega)) (.nil _))))))))))), ?_⟩
   ·simp only
    rw [List.take_succ_eq_append_getElem (show j < N.length by omega), List.map_append, List.map_singleton, txt_snoc]
    exact hop2
   ·simp only
    rw [hopsW_snoc, List.flatMap_append, List.flatMap_singleton]
    have e : hopW s k mean most ms.length N j = ⟨1, N[j + 1].1, 0, (dl mean.toNat (word s (k + 4 * (ms.length + j))) most.toNat : Nat), []⟩ := by simp [hopW, waitW, hNl, hj1]
    rw [e]
    exact hoq2
   ·exact .refl _
   -- LEFT: load (.tail _ (.tail _ (.tail _ (.head _)))) | rfl
  have g2 := of_decide_eq_false g2
  obtain rfl : j = ms.length + 1 := by omega
  subst hM
  have h9 : (L9, cel (ndc b) 135) ∈ [(L12, cel [.slice none 0 0, .slice none 0 0] 162), (L11, cel [.int .i64 mean, .int .i64 most] 31), (L10, cel h.cells 75), (L9, cel (ndc b) 135), (L8, cel (ndc a) 135), (L6, cel [.slice a1 h0.length c1, .slice a2 ms.length c2, .slice a3 ss.length c3] 28)] := .tail _ (.tail _ (.tail _ (.head _)))
  have h10 : (L10, cel h.cells 75) ∈ [(L12, cel [.slice none 0 0, .slice none 0 0] 162), (L11, cel [.int .i64 mean, .int .i64 most] 31), (L10, cel h.cells 75), (L9, cel (ndc b) 135), (L8, cel (ndc a) 135), (L6, cel [.slice a1 h0.length c1, .slice a2 ms.length c2, .slice a3 ss.length c3] 28)] := .tail _ (.tail _ (.head _))
  refine Wp.exit ?_
  refine Wp.seq (Wp.regionDraw [0, 1, 2, 3, 6, 7, 8, 14, 14, 14, 14, 14, 14, 14] [4, 5, 9, 10, 12] rfl (by decide +kernel) ?_)
  refine DWp.evs 1 rfl ?_
  refine Yd m1 ?_
  refine DWp.evs 1 rfl ?_
  refine Yd (.tail _ (.tail _ (List.mem_append_right _ (List.mem_append_right _ (List.mem_append_right _ (List.mem_append_left _ h9)))))) ?_
  refine DWp.evs 1 rfl ?_
  refine Yd m1 ?_
  refine Yd (.tail _ (.tail _ (List.mem_append_right _ (List.mem_append_right _ (List.mem_append_right _ (List.mem_append_left _ h10)))))) ?_
  refine DWp.forkTo [4, 9] (by decide +kernel) (by simp) ?_
  intro xx hxx
  simp only [List.mem_cons, List.mem_nil_iff, or_false] at hxx
  rcases hxx with rfl | rfl
  ·refine ⟨_, [14, 14, 14, 14, 14, 14], rfl, rfl, by decide +kernel, rfl, ?_⟩
   refine (Step.buildSlice rfl rfl rfl ?_); intro Lq hBLq hLLq
   refine prs ?_
   refine DWp.forkTo [5, 9] (by decide +kernel) (by simp) ?_
   intro xx hxx
   simp only [List.mem_cons, List.mem_nil_iff, or_false] at hxx
   rcases hxx with rfl | rfl
   ·refine ⟨_, [9, 10, 11, 12, 13], rfl, rfl, by decide +kernel, rfl, ?_⟩
    refine (Step.permS (show List.Perm ((Lq, cel [.string (str b.2)] 9) :: (tp p s (k + 4 * (ms.length + (ms.length + 1))) :: ((L21, cel [pv, qv] 162) :: (e1 ++ (e2 ++ (es3 ++ ((L12, cel [.slice none 0 0, .slice none 0 0] 162) :: ((L11, cel [.int .i64 mean, .int .i64 most] 31) :: ((L10, cel h.cells 75) :: ((L9, cel (ndc b) 135) :: ((L8, cel (ndc a) 135) :: ((L6, cel [.slice a1 h0.length c1, .slice a2 ms.length c2, .slice a3 ss.length c3] 28) :: (R))))))))))))) _ from Pe (Pe (Pe .rfl))) (Step.appendAt [] rfl rfl rfl rfl rfl rfl (by decide) rfl rfl hop (Reads.row (k := 1) (sz := 1) (List.mem_append_right [] (List.mem_append_right _ (.head _))) (Nat.le_of_ble_eq_true rfl)) rfl (by show (_ + 1) * 16 ≤ _; omega) (by unfold maxLen; omega) ?_))
    intro pv2 e12 hop2 _
    obtain ⟨pa, pc, rfl⟩ := hop2.reads.form
    refine prs ?_
    refine DWp.step rfl rfl rfl (Step.buildSlice rfl rfl rfl ?_); intro Lr hBLr hLLr
    refine prs ?_
    refine DWp.step rfl rfl rfl (Step.permS (show List.Perm ((Lr, cel h.cells 75) :: (e12 ++ ((Lq, cel [.string (str b.2)] 9) :: (tp p s (k + 4 * (ms.length + (ms.length + 1))) :: ((L21, cel [pv, qv] 162) :: (e2 ++ (es3 ++ ((L12, cel [.slice none 0 0, .slice none 0 0] 162) :: ((L11, cel [.int .i64 mean, .int .i64 most] 31) :: ((L10, cel h.cells 75) :: ((L9, cel (ndc b) 135) :: ((L8, cel (ndc a) 135) :: ((L6, cel [.slice a1 h0.length c1, .slice a2 ms.length c2, .slice a3 ss.length c3] 28) :: (R)))))))))))))) _ from Pe (Pf (Pe (Pe (Pe .rfl))))) (Step.appendAt [] rfl rfl rfl rfl rfl rfl (by decide) rfl rfl hoq (Reads.row (k := 1) (sz := 5) (List.mem_append_right [] (List.mem_append_right _ (.head _))) (Nat.le_of_ble_eq_true rfl)) rfl (by show (_ + 1) * 48 ≤ _; omega) (by unfold maxLen; omega) ?_))
    intro qv2 e22 hoq2 _
    obtain ⟨qa, qc, rfl⟩ := hoq2.reads.form
    refine prs ?_
    refine DWp.g rfl rfl rfl rfl (Gives.build rfl rfl) ?_
    refine DWp.step rfl rfl rfl (Step.permS (show List.Perm (e22 ++ ((Lr, cel h.cells 75) :: (e12 ++ ((Lq, cel [.string (str b.2)] 9) :: (tp p s (k + 4 * (ms.length + (ms.length + 1))) :: ((L21, cel [pv, qv] 162) :: (es3 ++ ((L12, cel [.slice none 0 0, .slice none 0 0] 162) :: ((L11, cel [.int .i64 mean, .int .i64 most] 31) :: ((L10, cel h.cells 75) :: ((L9, cel (ndc b) 135) :: ((L8, cel (ndc a) 135) :: ((L6, cel [.slice a1 h0.length c1, .slice a2 ms.length c2, .slice a3 ss.length c3] 28) :: (R)))))))))))))) _ from .trans (Pd (Pc (Pd (Pc (Pc (Pc (Pd .rfl))))))) (.cons _ (.trans (Pd (Pc (Pd (Pc (Pc (Pc (Pd .rfl))))))) (.cons _ (.trans (Pd (Pc (Pd (Pc (Pc (Pc (Pd .rfl))))))) (.cons _ (.trans (Pd (Pc (Pd (Pc (Pc (Pc (Pd .rfl))))))) (.cons _ (.trans (Pd (Pc (Pd (Pc (Pc (Pc (Pd .rfl))))))) (.cons _ (Pd (Pc (Pd (Pc (Pc (Pc (Pd .rfl))))))))))))))))) (Step.storeAs 0 [.slice pa (ms.length + 2) pc, .slice qa (ms.length + 2) qc] rfl rfl rfl rfl rfl hBL12 rfl (Unfz.zero _) rfl (Nat.le_of_ble_eq_true rfl) rfl rfl ?_))
    refine prs ?_
    refine DWp.evs 1 rfl ?_
    refine DWp.nil ?_
    refine Wp.ret ⟨trivial, _, ⟨_, _, _, _, rfl, rfl, ⟨_, _, _, mems, (by first | assumption | rfl)⟩, ⟨_, _, rfl, rfl, rfl⟩⟩, ?_⟩
    refine ⟨_, tp p s (k + 4 * (ms.length + (ms.length + 1))) :: (e12 ++ (e22 ++ R)), (show List.Perm ((L12, cel [.slice pa (ms.length + 2) pc, .slice qa (ms.length + 2) qc] 162) :: [(L12, cel [.slice none 0 0, .slice none 0 0] 162), (L11, cel [.int .i64 mean, .int .i64 most] 31), (L10, cel h.cells 75), (L9, cel (ndc b) 135), (L8, cel (ndc a) 135), (L6, cel [.slice a1 h0.length c1, .slice a2 ms.length c2, .slice a3 ss.length c3] 28)].tail ++ (e22 ++ ((Lr, cel h.cells 75) :: (e12 ++ ((Lq, cel [.string (str b.2)] 9) :: (tp p s (k + 4 * (ms.length + (ms.length + 1))) :: ((L21, cel [pv, qv] 162) :: (es3 ++ (R))))))))) (tp p s (k + 4 * (ms.length + (ms.length + 1))) :: (e12 ++ (e22 ++ ((L21, cel [pv, qv] 162) :: ((Lq, cel [.string (str b.2)] 9) :: ((Lr, cel h.cells 75) :: (es3 ++ ((L12, cel [.slice pa (ms.length + 2) pc, .slice qa (ms.length + 2) qc] 162) :: [(L12, cel [.slice none 0 0, .slice none 0 0] 162), (L11, cel [.int .i64 mean, .int .i64 most] 31), (L10, cel h.cells 75), (L9, cel (ndc b) 135), (L8, cel (ndc a) 135), (L6, cel [.slice a1 h0.length c1, .slice a2 ms.length c2, .slice a3 ss.length c3] 28)].tail ++ (R))))))))) from permBy [(L12, cel [.slice pa (ms.length + 2) pc, .slice qa (ms.length + 2) qc] 162) :: [(L12, cel [.slice none 0 0, .slice none 0 0] 162), (L11, cel [.int .i64 mean, .int .i64 most] 31), (L10, cel h.cells 75), (L9, cel (ndc b) 135), (L8, cel (ndc a) 135), (L6, cel [.slice a1 h0.length c1, .slice a2 ms.length c2, .slice a3 ss.length c3] 28)].tail, e22, [(Lr, cel h.cells 75)], e12, [(Lq, cel [.string (str b.2)] 9)], [tp p s (k + 4 * (ms.length + (ms.length + 1)))], [(L21, cel [pv, qv] 162)], es3] (R) [0, 1, 2, 3, 4, 5, 6, 7] [5, 3, 1, 6, 4, 2, 7, 0] (by decide)), .cons_cons _ ((List.Sublist.refl _).append ((List.Sublist.refl _).append (by repeat (first | exact List.Sublist.refl _ | exact List.sublist_append_right _ _ | apply List.Sublist.cons | refine List.Sublist.trans ?_ (List.sublist_append_right _ _))))), ?_⟩
    have e : wayR s k a b ms h mean most = (N.map (·.2), hopsW s k mean most ms.length N (ms.length + 1) ++ [h], 0, k + 4 * (2 * ms.length + 1)) := by unfold wayR; rw [if_neg (by simpa using hm), if_neg ht, hN]
    rw [e] at H
    have e2 : k + 4 * (ms.length + (ms.length + 1)) = k + 4 * (2 * ms.length + 1) := by omega
    rw [e2]
    refine H _ _ e12 e22 ?_ ?_
    ·have e3 : txt (N.map (·.2)) = txt ((N.take (ms.length + 1)).map (·.2)) ++ [.string (str b.2)] := by
      rw [← txt_snoc]
      congr 1
      rw [hN]
      unfold wayN
      rw [← List.cons_append, List.take_left' (by simp [picks_len]), List.map_append]
      rfl
     rw [e3, List.length_map, hNl]
     exact hop2
    ·rw [List.flatMap_append, List.flatMap_singleton, List.length_append, hopsW_len]
     exact hoq2
   ·refine ⟨_, [5, 10, 11, 12, 13], rfl, rfl, by decide +kernel, rfl, ?_⟩
    refine (Step.buildSlice rfl rfl rfl ?_); intro Lr hBLr hLLr
    refine prs ?_
    refine DWp.step rfl rfl rfl (Step.permS (.trans (Pe (Pe (Pe (Pe .rfl)))) (Pa (Pc .rfl))) (Step.appendAt [] rfl rfl rfl rfl rfl rfl (by decide) rfl rfl hop (Reads.row (k := 1) (sz := 1) (List.mem_append_right [] (List.mem_append_right _ (.head _))) (Nat.le_of_ble_eq_true rfl)) rfl (by show (_ + 1) * 16 ≤ _; omega) (by unfold maxLen; omega) ?_))
    intro pv2 e12 hop2 _
    obtain ⟨pa, pc, rfl⟩ := hop2.reads.form
    refine prs ?_
    refine DWp.step rfl rfl rfl (Step.permS (show List.Perm (e12 ++ ((Lq, cel [.string (str b.2)] 9) :: ((Lr, cel h.cells 75) :: (tp p s (k + 4 * (ms.length + (ms.length + 1))) :: ((L21, cel [pv, qv] 162) :: (e2 ++ (es3 ++ ((L12, cel [.slice none 0 0, .slice none 0 0] 162) :: ((L11, cel [.int .i64 mean, .int .i64 most] 31) :: ((L10, cel h.cells 75) :: ((L9, cel (ndc b) 135) :: ((L8, cel (ndc a) 135) :: ((L6, cel [.slice a1 h0.length c1, .slice a2 ms.length c2, .slice a3 ss.length c3] 28) :: (R)))))))))))))) _ from .trans (Pf (Pe (Pe (Pe (Pe .rfl))))) (Pa (Pd (Pc .rfl)))) (Step.appendAt [] rfl rfl rfl rfl rfl rfl (by decide) rfl rfl hoq (Reads.row (k := 1) (sz := 5) (List.mem_append_right [] (List.mem_append_right _ (.head _))) (Nat.le_of_ble_eq_true rfl)) rfl (by show (_ + 1) * 48 ≤ _; omega) (by unfold maxLen; omega) ?_))
    intro qv2 e22 hoq2 _
    obtain ⟨qa, qc, rfl⟩ := hoq2.reads.form
    refine prs ?_
    refine DWp.g rfl rfl rfl rfl (Gives.build rfl rfl) ?_
    refine DWp.step rfl rfl rfl (Step.permS (show List.Perm (e22 ++ ((Lr, cel h.cells 75) :: (e12 ++ ((Lq, cel [.string (str b.2)] 9) :: (tp p s (k + 4 * (ms.length + (ms.length + 1))) :: ((L21, cel [pv, qv] 162) :: (es3 ++ ((L12, cel [.slice none 0 0, .slice none 0 0] 162) :: ((L11, cel [.int .i64 mean, .int .i64 most] 31) :: ((L10, cel h.cells 75) :: ((L9, cel (ndc b) 135) :: ((L8, cel (ndc a) 135) :: ((L6, cel [.slice a1 h0.length c1, .slice a2 ms.length c2, .slice a3 ss.length c3] 28) :: (R)))))))))))))) _ from .trans (Pd (Pc (Pd (Pc (Pc (Pc (Pd .rfl))))))) (.cons _ (.trans (Pd (Pc (Pd (Pc (Pc (Pc (Pd .rfl))))))) (.cons _ (.trans (Pd (Pc (Pd (Pc (Pc (Pc (Pd .rfl))))))) (.cons _ (.trans (Pd (Pc (Pd (Pc (Pc (Pc (Pd .rfl))))))) (.cons _ (.trans (Pd (Pc (Pd (Pc (Pc (Pc (Pd .rfl))))))) (.cons _ (Pd (Pc (Pd (Pc (Pc (Pc (Pd .rfl))))))))))))))))) (Step.storeAs 0 [.slice pa (ms.length + 2) pc, .slice qa (ms.length + 2) qc] rfl rfl rfl rfl rfl hBL12 rfl (Unfz.zero _) rfl (Nat.le_of_ble_eq_true rfl) rfl rfl ?_))
    refine prs ?_
    refine DWp.evs 1 rfl ?_
    refine DWp.nil ?_
    refine Wp.ret ⟨trivial, _, ⟨_, _, _, _, rfl, rfl, ⟨_, _, _, mems, (by first | assumption | rfl)⟩, ⟨_, _, rfl, rfl, rfl⟩⟩, ?_⟩
    refine ⟨_, tp p s (k + 4 * (ms.length + (ms.length + 1))) :: (e12 ++ (e22 ++ R)), (show List.Perm ((L12, cel [.slice pa (ms.length + 2) pc, .slice qa (ms.length + 2) qc] 162) :: [(L12, cel [.slice none 0 0, .slice none 0 0] 162), (L11, cel [.int .i64 mean, .int .i64 most] 31), (L10, cel h.cells 75), (L9, cel (ndc b) 135), (L8, cel (ndc a) 135), (L6, cel [.slice a1 h0.length c1, .slice a2 ms.length c2, .slice a3 ss.length c3] 28)].tail ++ (e22 ++ ((Lr, cel h.cells 75) :: (e12 ++ ((Lq, cel [.string (str b.2)] 9) :: (tp p s (k + 4 * (ms.length + (ms.length + 1))) :: ((L21, cel [pv, qv] 162) :: (es3 ++ (R))))))))) (tp p s (k + 4 * (ms.length + (ms.length + 1))) :: (e12 ++ (e22 ++ ((L21, cel [pv, qv] 162) :: ((Lq, cel [.string (str b.2)] 9) :: ((Lr, cel h.cells 75) :: (es3 ++ ((L12, cel [.slice pa (ms.length + 2) pc, .slice qa (ms.length + 2) qc] 162) :: [(L12, cel [.slice none 0 0, .slice none 0 0] 162), (L11, cel [.int .i64 mean, .int .i64 most] 31), (L10, cel h.cells 75), (L9, cel (ndc b) 135), (L8, cel (ndc a) 135), (L6, cel [.slice a1 h0.length c1, .slice a2 ms.length c2, .slice a3 ss.length c3] 28)].tail ++ (R))))))))) from permBy [(L12, cel [.slice pa (ms.length + 2) pc, .slice qa (ms.length + 2) qc] 162) :: [(L12, cel [.slice none 0 0, .slice none 0 0] 162), (L11, cel [.int .i64 mean, .int .i64 most] 31), (L10, cel h.cells 75), (L9, cel (ndc b) 135), (L8, cel (ndc a) 135), (L6, cel [.slice a1 h0.length c1, .slice a2 ms.length c2, .slice a3 ss.length c3] 28)].tail, e22, [(Lr, cel h.cells 75)], e12, [(Lq, cel [.string (str b.2)] 9)], [tp p s (k + 4 * (ms.length + (ms.length + 1)))], [(L21, cel [pv, qv] 162)], es3] (R) [0, 1, 2, 3, 4, 5, 6, 7] [5, 3, 1, 6, 4, 2, 7, 0] (by decide)), .cons_cons _ ((List.Sublist.refl _).append ((List.Sublist.refl _).append (by repeat (first | exact List.Sublist.refl _ | exact List.sublist_append_right _ _ | apply List.Sublist.cons | refine List.Sublist.trans ?_ (List.sublist_append_right _ _))))), ?_⟩
    have e : wayR s k a b ms h mean most = (N.map (·.2), hopsW s k mean most ms.length N (ms.length + 1) ++ [h], 0, k + 4 * (2 * ms.length + 1)) := by unfold wayR; rw [if_neg (by simpa using hm), if_neg ht, hN]
    rw [e] at H
    have e2 : k + 4 * (ms.length + (ms.length + 1)) = k + 4 * (2 * ms.length + 1) := by omega
    rw [e2]
    refine H _ _ e12 e22 ?_ ?_
    ·have e3 : txt (N.map (·.2)) = txt ((N.take (ms.length + 1)).map (·.2)) ++ [.string (str b.2)] := by
      rw [← txt_snoc]
      congr 1
      rw [hN]
      unfold wayN
      rw [← List.cons_append, List.take_left' (by simp [picks_len]), List.map_append]
      rfl
     rw [e3, List.length_map, hNl]
     exact hop2
    ·rw [List.flatMap_append, List.flatMap_singleton, List.length_append, hopsW_len]
     exact hoq2
  ·refine ⟨_, [4, 5, 10, 11, 12, 13], rfl, rfl, by decide +kernel, rfl, ?_⟩
   refine (Step.buildSlice rfl rfl rfl ?_); intro Lr hBLr hLLr
   refine prs ?_
   refine DWp.step rfl rfl rfl (Step.buildSlice rfl rfl rfl ?_); intro Lq hBLq hLLq
   refine prs ?_
   refine DWp.step rfl rfl rfl (Step.permS (show List.Perm ((Lq, cel [.string (str b.2)] 9) :: ((Lr, cel h.cells 75) :: (tp p s (k + 4 * (ms.length + (ms.length + 1))) :: ((L21, cel [pv, qv] 162) :: (e1 ++ (e2 ++ (es3 ++ ((L12, cel [.slice none 0 0, .slice none 0 0] 162) :: ((L11, cel [.int .i64 mean, .int .i64 most] 31) :: ((L10, cel h.cells 75) :: ((L9, cel (ndc b) 135) :: ((L8, cel (ndc a) 135) :: ((L6, cel [.slice a1 h0.length c1, .slice a2 ms.length c2, .slice a3 ss.length c3] 28) :: (R)))))))))))))) _ from Pe (Pe (Pe (Pe .rfl)))) (Step.appendAt [] rfl rfl rfl rfl rfl rfl (by decide) rfl rfl hop (Reads.row (k := 1) (sz := 1) (List.mem_append_right [] (List.mem_append_right _ (.head _))) (Nat.le_of_ble_eq_true rfl)) rfl (by show (_ + 1) * 16 ≤ _; omega) (by unfold maxLen; omega) ?_))
   intro pv2 e12 hop2 _
   obtain ⟨pa, pc, rfl⟩ := hop2.reads.form
   refine prs ?_
   refine DWp.step rfl rfl rfl (Step.permS (show List.Perm (e12 ++ ((Lq, cel [.string (str b.2)] 9) :: ((Lr, cel h.cells 75) :: (tp p s (k + 4 * (ms.length + (ms.length + 1))) :: ((L21, cel [pv, qv] 162) :: (e2 ++ (es3 ++ ((L12, cel [.slice none 0 0, .slice none 0 0] 162) :: ((L11, cel [.int .i64 mean, .int .i64 most] 31) :: ((L10, cel h.cells 75) :: ((L9, cel (ndc b) 135) :: ((L8, cel (ndc a) 135) :: ((L6, cel [.slice a1 h0.length c1, .slice a2 ms.length c2, .slice a3 ss.length c3] 28) :: (R)))))))))))))) _ from .trans (Pf (Pe (Pe (Pe (Pe .rfl))))) (Pa (Pd (Pc .rfl)))) (Step.appendAt [] rfl rfl rfl rfl rfl rfl (by decide) rfl rfl hoq (Reads.row (k := 1) (sz := 5) (List.mem_append_right [] (List.mem_append_right _ (.head _))) (Nat.le_of_ble_eq_true rfl)) rfl (by show (_ + 1) * 48 ≤ _; omega) (by unfold maxLen; omega) ?_))
   intro qv2 e22 hoq2 _
   obtain ⟨qa, qc, rfl⟩ := hoq2.reads.form
   refine prs ?_
   refine DWp.g rfl rfl rfl rfl (Gives.build rfl rfl) ?_
   refine DWp.step rfl rfl rfl (Step.permS (show List.Perm (e22 ++ ((Lr, cel h.cells 75) :: (e12 ++ ((Lq, cel [.string (str b.2)] 9) :: (tp p s (k + 4 * (ms.length + (ms.length + 1))) :: ((L21, cel [pv, qv] 162) :: (es3 ++ ((L12, cel [.slice none 0 0, .slice none 0 0] 162) :: ((L11, cel [.int .i64 mean, .int .i64 most] 31) :: ((L10, cel h.cells 75) :: ((L9, cel (ndc b) 135) :: ((L8, cel (ndc a) 135) :: ((L6, cel [.slice a1 h0.length c1, .slice a2 ms.length c2, .slice a3 ss.length c3] 28) :: (R)))))))))))))) _ from .trans (Pd (Pc (Pd (Pc (Pc (Pc (Pd .rfl))))))) (.cons _ (.trans (Pd (Pc (Pd (Pc (Pc (Pc (Pd .rfl))))))) (.cons _ (.trans (Pd (Pc (Pd (Pc (Pc (Pc (Pd .rfl))))))) (.cons _ (.trans (Pd (Pc (Pd (Pc (Pc (Pc (Pd .rfl))))))) (.cons _ (.trans (Pd (Pc (Pd (Pc (Pc (Pc (Pd .rfl))))))) (.cons _ (Pd (Pc (Pd (Pc (Pc (Pc (Pd .rfl))))))))))))))))) (Step.storeAs 0 [.slice pa (ms.length + 2) pc, .slice qa (ms.length + 2) qc] rfl rfl rfl rfl rfl hBL12 rfl (Unfz.zero _) rfl (Nat.le_of_ble_eq_true rfl) rfl rfl ?_))
   refine prs ?_
   refine DWp.evs 1 rfl ?_
   refine DWp.nil ?_
   refine Wp.ret ⟨trivial, _, ⟨_, _, _, _, rfl, rfl, ⟨_, _, _, mems, (by first | assumption | rfl)⟩, ⟨_, _, rfl, rfl, rfl⟩⟩, ?_⟩
   refine ⟨_, tp p s (k + 4 * (ms.length + (ms.length + 1))) :: (e12 ++ (e22 ++ R)), (show List.Perm ((L12, cel [.slice pa (ms.length + 2) pc, .slice qa (ms.length + 2) qc] 162) :: [(L12, cel [.slice none 0 0, .slice none 0 0] 162), (L11, cel [.int .i64 mean, .int .i64 most] 31), (L10, cel h.cells 75), (L9, cel (ndc b) 135), (L8, cel (ndc a) 135), (L6, cel [.slice a1 h0.length c1, .slice a2 ms.length c2, .slice a3 ss.length c3] 28)].tail ++ (e22 ++ ((Lr, cel h.cells 75) :: (e12 ++ ((Lq, cel [.string (str b.2)] 9) :: (tp p s (k + 4 * (ms.length + (ms.length + 1))) :: ((L21, cel [pv, qv] 162) :: (es3 ++ (R))))))))) (tp p s (k + 4 * (ms.length + (ms.length + 1))) :: (e12 ++ (e22 ++ ((L21, cel [pv, qv] 162) :: ((Lq, cel [.string (str b.2)] 9) :: ((Lr, cel h.cells 75) :: (es3 ++ ((L12, cel [.slice pa (ms.length + 2) pc, .slice qa (ms.length + 2) qc] 162) :: [(L12, cel [.slice none 0 0, .slice none 0 0] 162), (L11, cel [.int .i64 mean, .int .i64 most] 31), (L10, cel h.cells 75), (L9, cel (ndc b) 135), (L8, cel (ndc a) 135), (L6, cel [.slice a1 h0.length c1, .slice a2 ms.length c2, .slice a3 ss.length c3] 28)].tail ++ (R))))))))) from permBy [(L12, cel [.slice pa (ms.length + 2) pc, .slice qa (ms.length + 2) qc] 162) :: [(L12, cel [.slice none 0 0, .slice none 0 0] 162), (L11, cel [.int .i64 mean, .int .i64 most] 31), (L10, cel h.cells 75), (L9, cel (ndc b) 135), (L8, cel (ndc a) 135), (L6, cel [.slice a1 h0.length c1, .slice a2 ms.length c2, .slice a3 ss.length c3] 28)].tail, e22, [(Lr, cel h.cells 75)], e12, [(Lq, cel [.string (str b.2)] 9)], [tp p s (k + 4 * (ms.length + (ms.length + 1)))], [(L21, cel [pv, qv] 162)], es3] (R) [0, 1, 2, 3, 4, 5, 6, 7] [5, 3, 1, 6, 4, 2, 7, 0] (by decide)), .cons_cons _ ((List.Sublist.refl _).append ((List.Sublist.refl _).append (by repeat (first | exact List.Sublist.refl _ | exact List.sublist_append_right _ _ | apply List.Sublist.cons | refine List.Sublist.trans ?_ (List.sublist_append_right _ _))))), ?_⟩
   have e : wayR s k a b ms h mean most = (N.map (·.2), hopsW s k mean most ms.length N (ms.length + 1) ++ [h], 0, k + 4 * (2 * ms.length + 1)) := by unfold wayR; rw [if_neg (by simpa using hm), if_neg ht, hN]
   rw [e] at H
   have e2 : k + 4 * (ms.length + (ms.length + 1)) = k + 4 * (2 * ms.length + 1) := by omega
   rw [e2]
   refine H _ _ e12 e22 ?_ ?_
   ·have e3 : txt (N.map (·.2)) = txt ((N.take (ms.length + 1)).map (·.2)) ++ [.string (str b.2)] := by
     rw [← txt_snoc]
     congr 1
     rw [hN]
     unfold wayN
     rw [← List.cons_append, List.take_left' (by simp [picks_len]), List.map_append]
     rfl
    rw [e3, List.length_map, hNl]
    exact hop2
   ·rw [List.flatMap_append, List.flatMap_singleton, List.length_append, hopsW_len]
    exact hoq2
 refine Yc rfl rfl (table_no hm ?_)
 refine Yz 5 rfl ?_
 refine Yn 2 rfl ?_
 refine Cw rfl (by exact fun h => nomatch h) fun cc8 => ?_
 refine Yq ?_
 refine OWp.g rfl rfl (Gives.build rfl rfl) ?_
 refine Ye 1 rfl ?_
 refine OWp.step rfl (Step.storeAs 0 [.slice none 0 0, .slice none 0 0] rfl rfl rfl rfl rfl hBL12 rfl (Unfz.zero _) rfl (Nat.le_of_ble_eq_true rfl) rfl rfl ?_)
 refine Yz 1 rfl ?_
 refine Wp.ret ⟨trivial, _, ⟨_, _, _, _, rfl, rfl, ⟨_, _, _, mems, (by first | assumption | rfl)⟩, ⟨_, _, rfl, rfl, rfl⟩⟩, ?_⟩
 have e : wayR s k a b ms h mean most = ([], [], 1, k) := by unfold wayR; rw [if_pos hm]
 rw [e] at H
 exact ⟨_, _, .refl _, subl, H _ _ _ _ (Own.nil _ _ _) (Own.nil _ _ _)⟩
end
end Go.Proofs.C

namespace Go.Proofs.C
open Go.Lg
set_option maxRecDepth 100000

theorem hostOf_no {ls : List (List Nd)} {ss : List St} {u : Int} {n : Nd} {e : Int} (h : HostOf ls ss u n e) : (e = 0 ∧ TownOk ls ss ∧ ∃ sl ly, ss.find? (fun s => s.1 == u) = some sl ∧ findP ls sl.2 = some (ly, n) ∧ ly ≤ 0) ∨ e = 5 ∨ e = 250 := by
 rcases h with ⟨hok, ⟨s, ly, h1, h2, h3, h4⟩ | ⟨_, _, h4⟩⟩ | ⟨_, _, h4⟩
 ·exact .inl ⟨h4, hok, s, ly, h1, h2, h3⟩
 ·exact .inr (.inl h4)
 ·exact .inr (.inr h4)
abbrev way2 (a1 : Option Addr) (n1 c1 : Nat) (a2 : Option Addr) (n2 c2 : Nat) : List Value := [.slice a1 n1 c1, .slice a2 n2 c2]
/-- What the call of draw does, whatever the tape: F is new, G stays. -/
def DrawSpec (f : FuncId) (B : Nat) (tw X dl : Value) (h : Hop) (S0 : Ents) (Post : Nd → Nd → List Value → Int → Ents → Ents → Prop) : Prop :=
 ∀ (a b : Nd) (L : Ents) (Q : Value → Ents → Prop), (∀ a1 n1 c1 a2 n2 c2 e F G, Post a b (way2 a1 n1 c1 a2 n2 c2) e F G → Q (.tuple #[.agg (way2 a1 n1 c1 a2 n2 c2).toArray, .int .i64 e]) (F ++ (L ++ G))) →
  CallWp Tryz.prog B f #[tw, X, .agg (ndc a).toArray, .agg (ndc b).toArray, .agg h.cells.toArray, dl] Q (L ++ S0)

section
variable {B : Nat} {S R : Ents} {Q : Value → Ents → Prop} {p k : Nat} {s : List UInt8} {hv mv sv : Value} {h0 : List Nd} {ms : List (List Nd)} {ss : List St} {a b : Nd} {h : Hop} {mean most : Int}

set_option maxHeartbeats 2000000 in
theorem homeG {X : Value} {frm to : Int} {id : List UInt8} {Post : Nd → Nd → List Value → Int → Ents → Ents → Prop} (hT : TIn S hv mv sv h0 ms ss)
  (hd : TownOk (h0 :: ms) ss → hopP ⟨2, 0, to, 0, id⟩ → DrawSpec 108 B (.agg #[hv, mv, sv]) X (.agg #[.int .i64 mean, .int .i64 most]) ⟨2, 0, to, 0, id⟩ S Post)
  (H0 : ∀ a e, HostOf (h0 :: ms) ss frm a e → e ≠ 0 → Q (.tuple #[.agg #[.slice none 0 0, .slice none 0 0], .int .i64 e]) S)
  (H1 : ∀ a b e, HostOf (h0 :: ms) ss frm a 0 → HostOf (h0 :: ms) ss to b e → e ≠ 0 → Q (.tuple #[.agg #[.slice none 0 0, .slice none 0 0], .int .i64 e]) S)
  (H2 : ∀ a b, HostOf (h0 :: ms) ss frm a 0 → HostOf (h0 :: ms) ss to b 0 → ¬ hopP ⟨2, 0, to, 0, id⟩ → Q (.tuple #[.agg #[.slice none 0 0, .slice none 0 0], .int .i64 70]) S)
  (H3 : ∀ a b a1 n1 c1 a2 n2 c2 e F G, HostOf (h0 :: ms) ss frm a 0 → HostOf (h0 :: ms) ss to b 0 → hopP ⟨2, 0, to, 0, id⟩ → Post a b (way2 a1 n1 c1 a2 n2 c2) e F G → Q (.tuple #[.agg (way2 a1 n1 c1 a2 n2 c2).toArray, .int .i64 e]) (F ++ G)) :
  CallWp Tryz.prog B 67 #[.agg #[hv, mv, sv], X, .int .i64 frm, .int .i64 to, .string (str id), .agg #[.int .i64 mean, .int .i64 most]] Q S := by
 obtain ⟨a1, c1, a2, c2, a3, c3, rfl, rfl, rfl⟩ := hT.forms
 refine subRet ?_
 refine Yx (args := [_, _, _, _, _, _]) Tryz.func67 Tryz.ntmps67 ?_
 refine Yq ?_
 refine Yb rfl rfl rfl rfl fun L6 hBL6 hLL6 => ?_
 refine Yb rfl rfl rfl rfl fun L11 hBL11 hLL11 => ?_
 refine Ya rfl rfl rfl rfl fun L12 hBL12 hLL12 => ?_
 refine Yz 1 rfl ?_
 refine Yq ?_
 refine Yl m2 ?_
 refine Ye 1 rfl ?_
 refine Yc rfl rfl (hostC (hT.mono fun _ h => .tail _ (.tail _ (.tail _ h))) ?_)
 intro a e ha
 refine Ye 3 rfl ?_
 refine Ya rfl rfl rfl rfl fun L14 hBL14 hLL14 => ?_
 refine OWp.step rfl (Step.storeAs 0 ((ndc a)) rfl rfl rfl rfl rfl (by assumption) rfl (Unfz.zero _) rfl (Nat.le_of_ble_eq_true rfl) rfl rfl ?_)
 refine Yz 1 rfl ?_
 refine Wp.seq ?_
 refine Yn 2 rfl ?_
 refine Wp.cond rfl (fun he => ?_) (fun he => ?_)
 ·have he := ndT he
  refine Yq ?_
  refine OWp.g rfl rfl (Gives.build rfl rfl) ?_
  refine Ye 1 rfl ?_
  refine OWp.step rfl (Step.storeAs 1 ([.slice none 0 0, .slice none 0 0]) rfl rfl rfl rfl rfl (by assumption) rfl (Unfz.zero _) rfl (Nat.le_of_ble_eq_true rfl) rfl rfl ?_)
  refine Yz 1 rfl ?_
  refine Wp.ret ⟨trivial, _, ⟨_, _, _, _, rfl, rfl, ⟨_, _, _, mems, (by first | assumption | rfl)⟩, ⟨_, _, rfl, rfl, rfl⟩⟩, ?_⟩
  exact ⟨_, _, .refl _, subl, H0 a e ha he⟩
 have he := ndF he
 subst he
 refine Wp.skip ?_
 refine Yq ?_
 refine Yl m3 ?_
 refine Ye 1 rfl ?_
 refine Yc rfl rfl (hostC (hT.mono fun _ h => .tail _ (.tail _ (.tail _ (.tail _ h)))) ?_)
 intro b e hb
 refine Ye 3 rfl ?_
 refine Ya rfl rfl rfl rfl fun L16 hBL16 hLL16 => ?_
 refine OWp.step rfl (Step.storeAs 0 ((ndc b)) rfl rfl rfl rfl rfl (by assumption) rfl (Unfz.zero _) rfl (Nat.le_of_ble_eq_true rfl) rfl rfl ?_)
 refine Yz 1 rfl ?_
 refine Wp.seq ?_
 refine Yn 2 rfl ?_
 refine Wp.cond rfl (fun he => ?_) (fun he => ?_)
 ·have he := ndT he
  refine Yq ?_
  refine OWp.g rfl rfl (Gives.build rfl rfl) ?_
  refine Ye 1 rfl ?_
  refine OWp.step rfl (Step.storeAs 2 ([.slice none 0 0, .slice none 0 0]) rfl rfl rfl rfl rfl (by assumption) rfl (Unfz.zero _) rfl (Nat.le_of_ble_eq_true rfl) rfl rfl ?_)
  refine Yz 1 rfl ?_
  refine Wp.ret ⟨trivial, _, ⟨_, _, _, _, rfl, rfl, ⟨_, _, _, mems, (by first | assumption | rfl)⟩, ⟨_, _, rfl, rfl, rfl⟩⟩, ?_⟩
  exact ⟨_, _, .refl _, subl, H1 a b e ha hb he⟩
 have he := ndF he
 subst he
 refine Wp.skip ?_
 refine Yg 2 rfl ?_
 refine OWp.g rfl rfl (Gives.build rfl rfl) ?_
 refine Ya rfl rfl rfl rfl fun L17 hBL17 hLL17 => ?_
 refine OWp.step rfl (Step.storeAs 0 ((Hop.cells ⟨2, 0, to, 0, id⟩)) rfl rfl rfl rfl rfl (by assumption) rfl (Unfz.zero _) rfl (Nat.le_of_ble_eq_true rfl) rfl rfl ?_)
 refine OWp.nil ?_
 refine Wp.seq ?_
 refine Yq ?_
 refine Yl m0 ?_
 refine Yc rfl rfl (checkC (x := ⟨2, 0, to, 0, id⟩) ?_)
 by_cases hp : hopP ⟨2, 0, to, 0, id⟩
 ·skip
  rw [hopE_yes hp]
  refine Yz 1 rfl ?_
  refine Yn 2 rfl ?_
  refine Cu rfl (by exact fun h => h rfl) fun cc1 => ?_
  refine Wp.skip ?_
  refine Yq ?_
  refine Yl (.tail _ (.tail _ (.tail _ (.tail _ (.tail _ (.head _)))))) ?_
  refine Ye 1 rfl ?_
  refine Yl m2 ?_
  refine Yl m1 ?_
  refine Yl m0 ?_
  refine Yl m4 ?_
  have hok : TownOk (h0 :: ms) ss := by rcases hostOf_no ha with ⟨_, h, _⟩ | h | h; exact h; all_goals cases h
  refine Yc rfl rfl (hd hok hp a b [(L17, cel (Hop.cells ⟨2, 0, to, 0, id⟩) 75), (L16, cel (ndc b) 135), (L14, cel (ndc a) 135), (L12, cel [.slice none 0 0, .slice none 0 0] 162), (L11, cel [.int .i64 mean, .int .i64 most] 31), (L6, cel [.slice a1 h0.length c1, .slice a2 ms.length c2, .slice a3 ss.length c3] 28)] _ ?_)
  intro p1 n1 d1 p2 n2 d2 e F G hPost
  refine OWp.permS (List.perm_append_comm_assoc F _ G) ?_
  refine Ye 2 rfl ?_
  refine OWp.step rfl (Step.storeAs 3 ((way2 p1 n1 d1 p2 n2 d2)) rfl rfl rfl rfl rfl (by assumption) rfl (Unfz.zero _) rfl (Nat.le_of_ble_eq_true rfl) rfl rfl ?_)
  refine Yz 1 rfl ?_
  refine Wp.ret ⟨trivial, _, ⟨_, _, _, _, rfl, rfl, ⟨_, _, _, mems, (by first | assumption | rfl)⟩, ⟨_, _, rfl, rfl, rfl⟩⟩, ?_⟩
  exact ⟨_, _, .refl _, subl, H3 a b p1 n1 d1 p2 n2 d2 e F G ha hb hp hPost⟩
 rw [hopE_no hp]
 refine Yz 1 rfl ?_
 refine Yn 2 rfl ?_
 refine Cw rfl (by exact fun h => nomatch h) fun cc2 => ?_
 refine Yq ?_
 refine OWp.g rfl rfl (Gives.build rfl rfl) ?_
 refine Ye 1 rfl ?_
 refine OWp.step rfl (Step.storeAs 3 ([.slice none 0 0, .slice none 0 0]) rfl rfl rfl rfl rfl (by assumption) rfl (Unfz.zero _) rfl (Nat.le_of_ble_eq_true rfl) rfl rfl ?_)
 refine Yz 1 rfl ?_
 refine Wp.ret ⟨trivial, _, ⟨_, _, _, _, rfl, rfl, ⟨_, _, _, mems, (by first | assumption | rfl)⟩, ⟨_, _, rfl, rfl, rfl⟩⟩, ?_⟩
 exact ⟨_, _, .refl _, subl, H2 a b ha hb hp⟩
end
end Go.Proofs.C

namespace Go.Proofs.C
open Go.Lg
set_option maxRecDepth 100000

section
variable {B : Nat} {S R : Ents} {Q : Value → Ents → Prop} {p k : Nat} {s : List UInt8} {hv mv sv : Value} {h0 : List Nd} {ms : List (List Nd)} {ss : List St} {a b : Nd} {h : Hop} {mean most : Int}

/-- May a command be loose? -/
def looseP (h : Hop) : Prop := hopP h ∧ h.kind ≠ 1
set_option maxHeartbeats 2000000 in
theorem looseG {X : Value} {frm number : Int} {Post : Nd → Nd → List Value → Int → Ents → Ents → Prop} (hT : TIn S hv mv sv h0 ms ss)
  (hd : TownOk (h0 :: ms) ss → looseP h → DrawSpec 108 B (.agg #[hv, mv, sv]) X (.agg #[.int .i64 mean, .int .i64 most]) h S Post)
  (H0 : ∀ a e, HostOf (h0 :: ms) ss frm a e → e ≠ 0 → Q (.tuple #[.agg #[.slice none 0 0, .slice none 0 0], .int .i64 e]) S)
  (H1 : ∀ a, HostOf (h0 :: ms) ss frm a 0 → (¬ ∃ x, findP (h0 :: ms) number = some x ∧ x.1 ≤ 0) → Q (.tuple #[.agg #[.slice none 0 0, .slice none 0 0], .int .i64 5]) S)
  (H2 : ∀ a b ly, HostOf (h0 :: ms) ss frm a 0 → findP (h0 :: ms) number = some (ly, b) → ly ≤ 0 → ¬ looseP h → Q (.tuple #[.agg #[.slice none 0 0, .slice none 0 0], .int .i64 70]) S)
  (H3 : ∀ a b ly a1 n1 c1 a2 n2 c2 e F G, HostOf (h0 :: ms) ss frm a 0 → findP (h0 :: ms) number = some (ly, b) → ly ≤ 0 → looseP h → Post a b (way2 a1 n1 c1 a2 n2 c2) e F G → Q (.tuple #[.agg (way2 a1 n1 c1 a2 n2 c2).toArray, .int .i64 e]) (F ++ G)) :
  CallWp Tryz.prog B 106 #[.agg #[hv, mv, sv], X, .int .i64 frm, .int .i64 number, .agg h.cells.toArray, .agg #[.int .i64 mean, .int .i64 most]] Q S := by
 obtain ⟨a1, c1, a2, c2, a3, c3, rfl, rfl, rfl⟩ := hT.forms
 refine subRet ?_
 refine Yx (args := [_, _, _, _, _, _]) Tryz.func106 Tryz.ntmps106 ?_
 refine Yq ?_
 refine Yb rfl rfl rfl rfl fun L6 hBL6 hLL6 => ?_
 refine Yb rfl rfl rfl rfl fun L10 hBL10 hLL10 => ?_
 refine Yb rfl rfl rfl rfl fun L11 hBL11 hLL11 => ?_
 refine Ya rfl rfl rfl rfl fun L12 hBL12 hLL12 => ?_
 refine Yz 1 rfl ?_
 refine Yq ?_
 refine Yl m3 ?_
 refine Ye 1 rfl ?_
 refine Yc rfl rfl (hostC (hT.mono fun _ h => .tail _ (.tail _ (.tail _ (.tail _ h)))) ?_)
 intro a e ha
 refine Ye 3 rfl ?_
 refine Ya rfl rfl rfl rfl fun L14 hBL14 hLL14 => ?_
 refine OWp.step rfl (Step.storeAs 0 ((ndc a)) rfl rfl rfl rfl rfl (by assumption) rfl (Unfz.zero _) rfl (Nat.le_of_ble_eq_true rfl) rfl rfl ?_)
 refine Yz 1 rfl ?_
 refine Wp.seq ?_
 refine Yn 2 rfl ?_
 refine Wp.cond rfl (fun he => ?_) (fun he => ?_)
 ·have he := ndT he
  refine Yq ?_
  refine OWp.g rfl rfl (Gives.build rfl rfl) ?_
  refine Ye 1 rfl ?_
  refine OWp.step rfl (Step.storeAs 1 ([.slice none 0 0, .slice none 0 0]) rfl rfl rfl rfl rfl (by assumption) rfl (Unfz.zero _) rfl (Nat.le_of_ble_eq_true rfl) rfl rfl ?_)
  refine Yz 1 rfl ?_
  refine Wp.ret ⟨trivial, _, ⟨_, _, _, _, rfl, rfl, ⟨_, _, _, mems, (by first | assumption | rfl)⟩, ⟨_, _, rfl, rfl, rfl⟩⟩, ?_⟩
  exact ⟨_, _, .refl _, subl, H0 a e ha he⟩
 have he := ndF he
 subst he
 have hok : TownOk (h0 :: ms) ss := by rcases hostOf_no ha with ⟨_, h, _⟩ | h | h; exact h; all_goals cases h
 refine Wp.skip ?_
 refine Yq ?_
 refine Yl m4 ?_
 refine Ye 1 rfl ?_
 refine Yc rfl rfl (find2C (hT.mono fun _ h => .tail _ (.tail _ (.tail _ (.tail _ (.tail _ h))))) hok ?_)
 rcases hf : findP (h0 :: ms) number with _ | ⟨ly, b⟩
 ·skip
  refine Ye 4 rfl ?_
  refine Ya rfl rfl rfl rfl fun L16 hBL16 hLL16 => ?_
  refine OWp.step rfl (Step.storeAs 0 ((ndc (0, []))) rfl rfl rfl rfl rfl (by assumption) rfl (Unfz.zero _) rfl (Nat.le_of_ble_eq_true rfl) rfl rfl ?_)
  refine Yz 2 rfl ?_
  refine Wp.seq ?_
  refine Yg 3 rfl ?_
  refine Yz 3 rfl ?_
  refine Cy rfl ?_
  refine Yq ?_
  refine OWp.g rfl rfl (Gives.build rfl rfl) ?_
  refine OWp.step rfl (Step.storeAs 2 ([.slice none 0 0, .slice none 0 0]) rfl rfl rfl rfl rfl (by assumption) rfl (Unfz.zero _) rfl (Nat.le_of_ble_eq_true rfl) rfl rfl ?_)
  refine Yz 1 rfl ?_
  refine Wp.ret ⟨trivial, _, ⟨_, _, _, _, rfl, rfl, ⟨_, _, _, mems, (by first | assumption | rfl)⟩, ⟨_, _, rfl, rfl, rfl⟩⟩, ?_⟩
  exact ⟨_, _, .refl _, subl, H1 a ha (by rw [hf]; simp)⟩
 refine Ye 4 rfl ?_
 refine Ya rfl rfl rfl rfl fun L16 hBL16 hLL16 => ?_
 refine OWp.step rfl (Step.storeAs 0 ((ndc b)) rfl rfl rfl rfl rfl (by assumption) rfl (Unfz.zero _) rfl (Nat.le_of_ble_eq_true rfl) rfl rfl ?_)
 refine Yz 2 rfl ?_
 refine Wp.seq ?_
 refine Yg 3 rfl ?_
 refine Yz 3 rfl ?_
 refine Wp.cond rfl (fun hl => ?_) (fun hl => ?_)
 ·have hl := of_decide_eq_true hl
  refine Yq ?_
  refine OWp.g rfl rfl (Gives.build rfl rfl) ?_
  refine OWp.step rfl (Step.storeAs 2 ([.slice none 0 0, .slice none 0 0]) rfl rfl rfl rfl rfl (by assumption) rfl (Unfz.zero _) rfl (Nat.le_of_ble_eq_true rfl) rfl rfl ?_)
  refine Yz 1 rfl ?_
  refine Wp.ret ⟨trivial, _, ⟨_, _, _, _, rfl, rfl, ⟨_, _, _, mems, (by first | assumption | rfl)⟩, ⟨_, _, rfl, rfl, rfl⟩⟩, ?_⟩
  exact ⟨_, _, .refl _, subl, H1 a ha (by rw [hf]; rintro ⟨x, hx, h2⟩; cases hx; simp only at h2; omega)⟩
 have hl := of_decide_eq_false hl
 refine Wp.skip ?_
 refine Wp.seq ?_
 refine Yq ?_
 refine Yl m4 ?_
 refine Yc rfl rfl (checkC ?_)
 by_cases hp : hopP h
 ·skip
  rw [hopE_yes hp]
  refine Ye 2 rfl ?_
  refine Du 46 rfl (by exact fun h => h rfl) fun cc1 => ?_
  refine Ye 1 rfl ?_
  refine Yl m4 ?_
  refine Yz 2 rfl ?_
  refine Wp.cond rfl (fun h1 => ?_) (fun h1 => ?_)
  ·have h1 := of_decide_eq_true h1
   refine Yq ?_
   refine OWp.g rfl rfl (Gives.build rfl rfl) ?_
   refine OWp.step rfl (Step.storeAs 2 ([.slice none 0 0, .slice none 0 0]) rfl rfl rfl rfl rfl (by assumption) rfl (Unfz.zero _) rfl (Nat.le_of_ble_eq_true rfl) rfl rfl ?_)
   refine Yz 1 rfl ?_
   refine Wp.ret ⟨trivial, _, ⟨_, _, _, _, rfl, rfl, ⟨_, _, _, mems, (by first | assumption | rfl)⟩, ⟨_, _, rfl, rfl, rfl⟩⟩, ?_⟩
   exact ⟨_, _, .refl _, subl, H2 a b ly ha hf (by omega) (fun h => h.2 h1)⟩
  have h1 := of_decide_eq_false h1
  refine Wp.skip ?_
  refine Yq ?_
  refine Yl (.tail _ (.tail _ (.tail _ (.tail _ (.tail _ (.head _)))))) ?_
  refine Ye 1 rfl ?_
  refine Yl m1 ?_
  refine Yl m0 ?_
  refine Yl m4 ?_
  refine Yl m3 ?_
  refine Yc rfl rfl (hd hok ⟨hp, h1⟩ a b [(L16, cel (ndc b) 135), (L14, cel (ndc a) 135), (L12, cel [.slice none 0 0, .slice none 0 0] 162), (L11, cel [.int .i64 mean, .int .i64 most] 31), (L10, cel h.cells 75), (L6, cel [.slice a1 h0.length c1, .slice a2 ms.length c2, .slice a3 ss.length c3] 28)] _ ?_)
  intro p1 n1 d1 p2 n2 d2 e F G hPost
  refine OWp.permS (List.perm_append_comm_assoc F _ G) ?_
  refine Ye 2 rfl ?_
  refine OWp.step rfl (Step.storeAs 2 ((way2 p1 n1 d1 p2 n2 d2)) rfl rfl rfl rfl rfl (by assumption) rfl (Unfz.zero _) rfl (Nat.le_of_ble_eq_true rfl) rfl rfl ?_)
  refine Yz 1 rfl ?_
  refine Wp.ret ⟨trivial, _, ⟨_, _, _, _, rfl, rfl, ⟨_, _, _, mems, (by first | assumption | rfl)⟩, ⟨_, _, rfl, rfl, rfl⟩⟩, ?_⟩
  exact ⟨_, _, .refl _, subl, H3 a b ly p1 n1 d1 p2 n2 d2 e F G ha hf (by omega) ⟨hp, h1⟩ hPost⟩
 rw [hopE_no hp]
 refine Ye 2 rfl ?_
 refine Dw 46 rfl (by exact fun h => nomatch h) fun cc2 => ?_
 refine Yz 4 rfl ?_
 refine Cy rfl ?_
 refine Yq ?_
 refine OWp.g rfl rfl (Gives.build rfl rfl) ?_
 refine OWp.step rfl (Step.storeAs 2 ([.slice none 0 0, .slice none 0 0]) rfl rfl rfl rfl rfl (by assumption) rfl (Unfz.zero _) rfl (Nat.le_of_ble_eq_true rfl) rfl rfl ?_)
 refine Yz 1 rfl ?_
 refine Wp.ret ⟨trivial, _, ⟨_, _, _, _, rfl, rfl, ⟨_, _, _, mems, (by first | assumption | rfl)⟩, ⟨_, _, rfl, rfl, rfl⟩⟩, ?_⟩
 exact ⟨_, _, .refl _, subl, H2 a b ly ha hf (by omega) (fun h => hp h.1)⟩
end
end Go.Proofs.C

namespace Go.Proofs.C
open Go.Lg
set_option maxRecDepth 100000

/-- Points, path, why not, where the tape stands. -/
abbrev WayT := List (List UInt8) × List Hop × Int × Nat
def HomeOf (h0 : List Nd) (ms : List (List Nd)) (ss : List St) (s : List UInt8) (k : Nat) (frm to : Int) (id : List UInt8) (mean most : Int) (w : WayT) : Prop :=
 (∃ a e, HostOf (h0 :: ms) ss frm a e ∧ e ≠ 0 ∧ w = ([], [], e, k)) ∨ (∃ a b e, HostOf (h0 :: ms) ss frm a 0 ∧ HostOf (h0 :: ms) ss to b e ∧ e ≠ 0 ∧ w = ([], [], e, k)) ∨
 (∃ a b, HostOf (h0 :: ms) ss frm a 0 ∧ HostOf (h0 :: ms) ss to b 0 ∧ ¬ hopP ⟨2, 0, to, 0, id⟩ ∧ w = ([], [], 70, k)) ∨
 (∃ a b, HostOf (h0 :: ms) ss frm a 0 ∧ HostOf (h0 :: ms) ss to b 0 ∧ hopP ⟨2, 0, to, 0, id⟩ ∧ w = wayR s k a b ms ⟨2, 0, to, 0, id⟩ mean most)
def LooseOf (h0 : List Nd) (ms : List (List Nd)) (ss : List St) (s : List UInt8) (k : Nat) (frm number : Int) (h : Hop) (mean most : Int) (w : WayT) : Prop :=
 (∃ a e, HostOf (h0 :: ms) ss frm a e ∧ e ≠ 0 ∧ w = ([], [], e, k)) ∨ (∃ a, HostOf (h0 :: ms) ss frm a 0 ∧ (¬ ∃ x, findP (h0 :: ms) number = some x ∧ x.1 ≤ 0) ∧ w = ([], [], 5, k)) ∨
 (∃ a b ly, HostOf (h0 :: ms) ss frm a 0 ∧ findP (h0 :: ms) number = some (ly, b) ∧ ly ≤ 0 ∧ ¬ looseP h ∧ w = ([], [], 70, k)) ∨
 (∃ a b ly, HostOf (h0 :: ms) ss frm a 0 ∧ findP (h0 :: ms) number = some (ly, b) ∧ ly ≤ 0 ∧ looseP h ∧ w = wayR s k a b ms h mean most)

/-- What a way's value is in memory. -/
def WayIn (B : Nat) (w : WayT) (pv qv : Value) (es1 es2 : Ents) : Prop := Lg.Own B 9 1 pv w.1.length (txt w.1) es1 ∧ Lg.Own B 75 5 qv w.2.1.length (w.2.1.flatMap Hop.cells) es2
theorem WayIn.none (B : Nat) (e : Int) (k : Nat) : WayIn B ([], [], e, k) (.slice none 0 0) (.slice none 0 0) [] [] := ⟨Own.nil _ _ _, Own.nil _ _ _⟩
def WayPost (B : Nat) (s : List UInt8) (k p : Nat) (ms : List (List Nd)) (h : Hop) (mean most : Int) (R : Ents) (a b : Nd) (way : List Value) (e : Int) (F G : Ents) : Prop :=
 e = (wayR s k a b ms h mean most).2.2.1 ∧ ∃ pv qv es1 es2, way = [pv, qv] ∧ F = tp p s (wayR s k a b ms h mean most).2.2.2 :: (es1 ++ es2) ∧ G = R ∧ WayIn B (wayR s k a b ms h mean most) pv qv es1 es2

section
variable {B : Nat} {S R : Ents} {Q : Value → Ents → Prop} {p k : Nat} {s : List UInt8} {hv mv sv : Value} {h0 : List Nd} {ms : List (List Nd)} {ss : List St} {a b : Nd} {h : Hop} {mean most : Int}
theorem tapeSpec (hB : B ≤ p) (hs : s.length ≤ lim) (hk : k ≤ s.length) (hT : TIn R hv mv sv h0 ms ss) (hok : TownOk (h0 :: ms) ss) :
  DrawSpec 108 B (.agg #[hv, mv, sv]) (pt p) (.agg #[.int .i64 mean, .int .i64 most]) h (tp p s k :: R) (WayPost B s k p ms h mean most R) := by
 intro a b L Q H
 refine CallWp.permS List.perm_middle ?_
 refine drawWC hB hs hk (hT.mono fun x hx => List.mem_append_right _ hx) hok ?_
 intro pv qv es1 es2 h1 h2
 obtain ⟨pa, pc, hp⟩ := h1.reads.form
 obtain ⟨qa, qc, hq⟩ := h2.reads.form
 have := H pa _ pc qa _ qc _ _ R ⟨rfl, pv, qv, es1, es2, by rw [hp, hq], rfl, rfl, h1, h2⟩
 rw [List.cons_append, List.append_assoc] at this
 rw [hp, hq]
 exact this
theorem homeC {frm to : Int} {id : List UInt8} (hB : B ≤ p) (hs : s.length ≤ lim) (hk : k ≤ s.length) (hT : TIn R hv mv sv h0 ms ss)
  (H : ∀ w pv qv es1 es2, HomeOf h0 ms ss s k frm to id mean most w → WayIn B w pv qv es1 es2 → Q (.tuple #[.agg #[pv, qv], .int .i64 w.2.2.1]) (tp p s w.2.2.2 :: (es1 ++ (es2 ++ R)))) :
  CallWp Tryz.prog B 67 #[.agg #[hv, mv, sv], pt p, .int .i64 frm, .int .i64 to, .string (str id), .agg #[.int .i64 mean, .int .i64 most]] Q (tp p s k :: R) := by
 refine homeG (hT.mono fun _ h => .tail _ h) (fun hok hp => tapeSpec hB hs hk hT hok) ?_ ?_ ?_ ?_
 ·intro a e ha he
  exact H _ _ _ _ _ (.inl ⟨a, e, ha, he, rfl⟩) (WayIn.none _ _ _)
 ·intro a b e ha hb he
  exact H _ _ _ _ _ (.inr (.inl ⟨a, b, e, ha, hb, he, rfl⟩)) (WayIn.none _ _ _)
 ·intro a b ha hb hp
  exact H _ _ _ _ _ (.inr (.inr (.inl ⟨a, b, ha, hb, hp, rfl⟩))) (WayIn.none _ _ _)
 ·rintro a b a1 n1 c1 a2 n2 c2 e F G ha hb hp ⟨rfl, pv, qv, es1, es2, hw, rfl, rfl, hin⟩
  have := H _ _ _ _ _ (.inr (.inr (.inr ⟨a, b, ha, hb, hp, rfl⟩))) hin
  rw [hw, List.cons_append, List.append_assoc]
  exact this
theorem looseC {frm number : Int} (hB : B ≤ p) (hs : s.length ≤ lim) (hk : k ≤ s.length) (hT : TIn R hv mv sv h0 ms ss)
  (H : ∀ w pv qv es1 es2, LooseOf h0 ms ss s k frm number h mean most w → WayIn B w pv qv es1 es2 → Q (.tuple #[.agg #[pv, qv], .int .i64 w.2.2.1]) (tp p s w.2.2.2 :: (es1 ++ (es2 ++ R)))) :
  CallWp Tryz.prog B 106 #[.agg #[hv, mv, sv], pt p, .int .i64 frm, .int .i64 number, .agg h.cells.toArray, .agg #[.int .i64 mean, .int .i64 most]] Q (tp p s k :: R) := by
 refine looseG (hT.mono fun _ h => .tail _ h) (fun hok hp => tapeSpec hB hs hk hT hok) ?_ ?_ ?_ ?_
 ·intro a e ha he
  exact H _ _ _ _ _ (.inl ⟨a, e, ha, he, rfl⟩) (WayIn.none _ _ _)
 ·intro a ha hx
  exact H _ _ _ _ _ (.inr (.inl ⟨a, ha, hx, rfl⟩)) (WayIn.none _ _ _)
 ·intro a b ly ha hb hl hp
  exact H _ _ _ _ _ (.inr (.inr (.inl ⟨a, b, ly, ha, hb, hl, hp, rfl⟩))) (WayIn.none _ _ _)
 ·rintro a b ly a1 n1 c1 a2 n2 c2 e F G ha hb hl hp ⟨rfl, pv, qv, es1, es2, hw, rfl, rfl, hin⟩
  have := H _ _ _ _ _ (.inr (.inr (.inr ⟨a, b, ly, ha, hb, hl, hp, rfl⟩))) hin
  rw [hw, List.cons_append, List.append_assoc]
  exact this
end
end Go.Proofs.C
