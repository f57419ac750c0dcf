/- What functions of the given program do, one after the other, told by that layer. -/
import Derived.Test.YtlhpbeldhpljnaaPTopo19
import Derived.Test.YtlhpbeldhpljnaaPM6xa465
import Derived.Test.YtlhpbeldhpljnaaLgM3x1d93
namespace Go.Proofs.C
open Go.Lg
set_option maxRecDepth 100000
section
variable {B : Nat} {S R : Ents} {Q : Value → Ents → Prop} {p k : Nat} {s : List UInt8} {hv mv sv : Value} {h0 : List Nd} {ms : List (List Nd)} {ss : List St} {a b : Nd} {h : Hop} {mean most : Int}
theorem rtableY (hm : mayP most [mean]) (H0 : ∀ es v, Q (.tuple #[v, .int .i64 0]) (es ++ S)) : CallWp Try.prog B 46 #[.int .i64 mean, .int .i64 most] Q S := by
  obtain ⟨h1, h2, h3, h4⟩ := mayP_nat hm
  rw [h1, h2]
  exact rtable_yes h3 h4 fun v es _ => H0 es v

set_option maxHeartbeats 8000000 in
theorem rwayWC (hB : B ≤ p) (hs : s.length ≤ lim) (hk : k ≤ s.length) (hT : TIn R hv mv sv h0 ms ss) (hok : TownOk (h0 :: ms) ss) (htt : (h0 :: ms).flatten.length ≤ 1099511627776)
    (H : ∀ pv qv es1 es2, Lg.Own B 9 1 pv (wayR s k a b ms h mean most).1.length (txt (wayR s k a b ms h mean most).1) es1 →
      Lg.Own B 43 5 qv (wayR s k a b ms h mean most).2.1.length ((wayR s k a b ms h mean most).2.1.flatMap Hop.cells) es2 →
      Q (.tuple #[.agg #[pv, qv], .int .i64 (wayR s k a b ms h mean most).2.2.1]) (rtp p s (wayR s k a b ms h mean most).2.2.2 :: (es1 ++ (es2 ++ R)))) :
    CallWp Try.prog B 35 #[.agg #[hv, mv, sv], pt p, .agg (ndc a).toArray, .agg (ndc b).toArray, .agg h.cells.toArray, .agg #[.int .i64 mean, .int .i64 most]] Q (rtp p s k :: R) := by
  obtain ⟨a1, c1, a2, c2, a3, c3, rfl, rfl, rfl⟩ := hT.forms
  have hnl : ms.length ≤ 3 := by have := hok.1.2.1; simp only [List.length_cons] at this; omega
  refine subRet ?_
  refine CallWp.enter (args := [_, _, _, _, _, _]) Try.func35 rfl Try.ntmps35 rfl ?_
  refine Wp.seq (Wp.region ?_)
  refine OWp.step rfl (Step.box rfl rfl rfl ?_); intro L6 hBL6 hLL6
  refine OWp.step rfl (Step.box rfl rfl rfl ?_); intro L8 hBL8 hLL8
  refine OWp.step rfl (Step.box rfl rfl rfl ?_); intro L9 hBL9 hLL9
  refine OWp.step rfl (Step.box rfl rfl rfl ?_); intro L10 hBL10 hLL10
  refine OWp.step rfl (Step.box rfl rfl rfl ?_); intro L11 hBL11 hLL11
  refine OWp.step rfl (Step.alloc rfl rfl rfl ?_); intro L12 hBL12 hLL12
  refine OWp.evs 1 rfl ?_
  refine OWp.nil ?_
  refine Wp.seq ?_
  refine Wp.seq (Wp.region ?_)
  refine OWp.evs 1 rfl ?_
  refine OWp.load (.tail _ (.head _)) rfl rfl rfl rfl rfl ?_
  refine OWp.evs 1 rfl ?_
  refine OWp.load (.tail _ (.head _)) rfl rfl rfl rfl rfl ?_
  by_cases hm : mayP most [mean]
  · skip
    refine OWp.step rfl (Step.call rfl rfl rfl rfl rfl rfl ((rtableY hm ?_)))
    intro eT uT
    refine OWp.evs 5 rfl ?_
    refine OWp.nil ?_
    refine Wp.seq (Wp.region ?_)
    refine OWp.evs 2 rfl ?_
    refine OWp.nil ?_
    refine Wp.cond rfl (fun cc1 => absurd (ndT cc1) (by exact fun h => h rfl)) (fun cc1 => ?_)
    have cc1 := ndF cc1
    refine Wp.skip ?_
    refine Wp.seq ?_
    refine Wp.seq (Wp.regionDraw [0, 1, 2, 3, 4, 5, 6, 7, 8] [6] rfl (by decide +kernel) ?_)
    refine DWp.evs 3 rfl ?_
    refine DWp.load (List.mem_append_right _ (.tail _ (.tail _ (.tail _ (.tail _ (.tail _ (.tail _ (.head _)))))))) rfl rfl rfl rfl rfl rfl rfl ?_
    refine DWp.evs 1 rfl ?_
    refine DWp.load (List.mem_append_right _ (.tail _ (.tail _ (.tail _ (.tail _ (.tail _ (.head _))))))) rfl rfl rfl rfl rfl rfl rfl ?_
    refine DWp.step rfl rfl rfl (Step.call rfl rfl rfl rfl rfl rfl ((rwordsC (hT.mono fun _ h => List.mem_append_right _ (.tail _ (.tail _ (.tail _ (.tail _ (.tail _ (.tail _ (.tail _ h)))))))) htt ?_)))
    intro n hn
    have hn2 : n = 2 * (ms.length : Int) + 1 := by
      rcases hn with ⟨_, hn⟩ | ⟨hn, _⟩
      · simpa using hn
      · exact absurd hok hn
    subst hn2
    refine ⟨by (repeat (first | exact pr_nil | refine pr_kept ?_ | refine pr_free ?_ | refine pr_cons (by repeat (first | exact List.Mem.head _ | assumption | exact List.mem_append_left _ (by assumption) | apply List.mem_cons_of_mem | apply List.mem_append_right)) ?_)), ?_⟩
    by_cases ht : s.length - k < 4 * (2 * ms.length + 1)
    · skip
      refine DWp.evs 2 rfl ?_
      refine DWp.nil ?_
      refine Wp.cond rfl (fun cc2 => ?_) (fun cc2 => absurd (of_decide_eq_false cc2) (by rw [List.length_drop, i64_id] <;> omega))
      have cc2 := of_decide_eq_true cc2
      refine Wp.seq (Wp.region ?_)
      refine OWp.g rfl rfl (Gives.build rfl rfl) ?_
      refine OWp.step rfl (Step.permS (show List.Perm (eT ++ ([(L12, cel [.slice none 0 0, .slice none 0 0] 56), (L11, cel [.int .i64 mean, .int .i64 most] 45), (L10, cel h.cells 43), (L9, cel (ndc b) 31), (L8, cel (ndc a) 31), (L6, cel [.slice a1 h0.length c1, .slice a2 ms.length c2, .slice a3 ss.length c3] 26)] ++ (rtp p s k :: R))) ([(L12, cel [.slice none 0 0, .slice none 0 0] 56), (L11, cel [.int .i64 mean, .int .i64 most] 45), (L10, cel h.cells 43), (L9, cel (ndc b) 31), (L8, cel (ndc a) 31), (L6, cel [.slice a1 h0.length c1, .slice a2 ms.length c2, .slice a3 ss.length c3] 26)] ++ (eT ++ (rtp p s k :: R))) from List.perm_append_comm_assoc _ _ _) (Step.storeAs 0 [.slice none 0 0, .slice none 0 0] rfl rfl rfl rfl rfl hBL12 rfl (Unfz.zero _) rfl (Nat.le_of_ble_eq_true rfl) rfl rfl ?_))
      refine OWp.evs 1 rfl ?_
      refine OWp.nil ?_
      refine Wp.ret ⟨trivial, _, ⟨_, _, _, _, rfl, rfl, ⟨_, _, _, (by repeat (first | exact List.Mem.head _ | assumption | exact List.mem_append_left _ (by assumption) | apply List.mem_cons_of_mem | apply List.mem_append_right)), (by first | assumption | rfl)⟩, ⟨_, _, rfl, rfl, rfl⟩⟩, ?_⟩
      have e : wayR s k a b ms h mean most = ([], [], 120, k) := by unfold wayR; rw [if_neg (by simpa using hm), if_pos ht]
      rw [e] at H
      exact ⟨_, _, .refl _, (by repeat (first | exact List.Sublist.refl _ | exact List.sublist_append_right _ _ | apply List.Sublist.cons)), H _ _ _ _ (Own.nil _ _ _) (Own.nil _ _ _)⟩
    refine DWp.evs 2 rfl ?_
    refine DWp.nil ?_
    refine Wp.cond rfl (fun cc3 => absurd (of_decide_eq_true cc3) (by rw [List.length_drop, i64_id] <;> omega)) (fun cc3 => ?_)
    have cc3 := of_decide_eq_false cc3
    have hlen : k + 4 * (2 * ms.length + 1) ≤ s.length := by omega
    obtain ⟨vs, hmr, hvs, hn, hvl, _⟩ := id hT
    have hn1 := hn.1
    simp only [List.length_cons, Nat.add_right_cancel_iff] at hn1
    rw [hn1] at hmr
    refine Wp.skip ?_
    refine Wp.seq (Wp.region ?_)
    refine OWp.load (List.mem_append_right _ (.tail _ (.tail _ (.tail _ (.tail _ (.head _)))))) rfl rfl rfl rfl rfl ?_
    refine OWp.step rfl (Step.buildSlice rfl rfl rfl ?_); intro Ll hBLl hLLl
    refine OWp.evs 1 rfl ?_
    refine OWp.nil ?_
    obtain ⟨M, hM⟩ : ∃ M : Ents, M = [(L12, cel [.slice none 0 0, .slice none 0 0] 56), (L11, cel [.int .i64 mean, .int .i64 most] 45), (L10, cel h.cells 43), (L9, cel (ndc b) 31), (L8, cel (ndc a) 31), (L6, cel [.slice a1 h0.length c1, .slice a2 ms.length c2, .slice a3 ss.length c3] 26)] ++ R := ⟨_, rfl⟩
    have hMR : ∀ x ∈ R, x ∈ M := fun x hx => by rw [hM]; exact List.mem_append_right _ hx
    have h6 : (L6, cel [.slice a1 h0.length c1, .slice a2 ms.length c2, .slice a3 ss.length c3] 26) ∈ M := by rw [hM]; exact .tail _ (.tail _ (.tail _ (.tail _ (.tail _ (.head _)))))
    show Wp _ _ _ _ _ _ _
    refine Wp.permS (S' := eT ++ (rtp p s k :: ((Ll, cel (ndc a) 31) :: M))) (hM ▸ permBy [[(Ll, cel (ndc a) 31)], eT, [(L12, cel [.slice none 0 0, .slice none 0 0] 56), (L11, cel [.int .i64 mean, .int .i64 most] 45), (L10, cel h.cells 43), (L9, cel (ndc b) 31), (L8, cel (ndc a) 31), (L6, cel [.slice a1 h0.length c1, .slice a2 ms.length c2, .slice a3 ss.length c3] 26)], [rtp p s k]] R [0, 1, 2, 3] [1, 3, 0, 2] (by decide)) ?_
    refine Wp.drop (List.sublist_append_right _ _) ?_
    refine Wp.seq ?_
    refine Wp.seq (Wp.region ?_)
    refine OWp.evs 1 rfl ?_
    refine OWp.nil ?_
    refine Wp.block ?_
    refine Wp.loopS (α := Nat × Value × Ents) (fun z => ms.length - z.1) (fun z => [(1, pt p), (6, pt L6), (9, pt L9), (10, pt L10), (11, pt L11), (12, pt L12), (13, .int .i64 0), (16, z.2.1), (17, .int .i64 (z.1 : Int))]) (fun z => rtp p s (k + 4 * z.1) :: (z.2.2 ++ M)) (fun z => z.1 ≤ ms.length ∧ Lg.Own B 31 2 z.2.1 (z.1 + 1) ((a :: picks s k ms z.1).flatMap ndc) z.2.2) (0, .slice (some ⟨Ll, 0, none⟩) 1 1, [(Ll, cel (ndc a) 31)]) ?_ ?_ ⟨Nat.zero_le _, Own.row hBLl rfl (by decide)⟩ ?_
    · exact .cons rfl (.cons rfl (.cons rfl (.cons rfl (.cons rfl (.cons rfl (.cons rfl (.cons rfl (.cons rfl (.nil _)))))))))
    · exact .refl _
    rintro ⟨i, lv, es⟩ ⟨hi, ho⟩
    simp only at hi ho ⊢
    refine Wp.seq ?_
    refine Wp.seq (Wp.region ?_)
    refine OWp.evs 2 rfl ?_
    refine OWp.load (.tail _ (List.mem_append_right _ h6)) rfl rfl rfl rfl rfl ?_
    refine OWp.evs 2 rfl ?_
    refine OWp.nil ?_
    refine Wp.cond rfl (fun g1 => ?_) (fun g1 => ?_)
    · have g1 := of_decide_eq_true g1
      have hi1 : i < ms.length := by omega
      obtain ⟨b2, o2, c2', l2, t2, f2, hv2, hm2, _, hg2⟩ := hmr.get1 (by omega)
      cases hv2
      obtain ⟨hnr, hnl2⟩ := hn.2 (i + 1) vs[i] ms[i] (by simp) (by simp)
      obtain ⟨hy1, hy2⟩ := layer_small hok (List.getElem_mem hi1)
      obtain ⟨b3, o3, c3', l3, t3, f3, hv3, hm3, hat3⟩ := nd_at hnr (by omega)
      have hgi : l2[o2 + i * 1]? = some (.slice (some ⟨b3, o3, none⟩) ms[i].length c3') := by rw [hg2 i (by omega), ← hv3]; simp
      refine Wp.skip ?_
      refine Wp.seq ?_
      refine Wp.block ?_
      refine Wp.seq (Wp.region ?_)
      refine OWp.evs 2 rfl ?_
      refine OWp.load (.tail _ (List.mem_append_right _ h6)) rfl rfl rfl rfl rfl ?_
      refine OWp.evs 1 rfl ?_
      refine OWp.g rfl rfl (Gives.indexAddrSlice (i) rfl rfl rfl rfl rfl rfl (by omega)) ?_
      refine OWp.load (.tail _ (List.mem_append_right _ (hMR _ hm2))) rfl rfl rfl rfl hgi ?_
      refine OWp.evs 1 rfl ?_
      refine OWp.step rfl (Step.call rfl rfl rfl rfl rfl rfl ((rbelowC hB hs (by omega) ?_)))
      rw [belowR_yes (by omega) hy1 (by omega)]
      have hw := pick_lt (s := s) (k := k + 4 * i) (n := ms[i].length) (by omega)
      refine OWp.evs 5 rfl ?_
      refine OWp.nil ?_
      refine Wp.region ?_
      refine OWp.evs 2 rfl ?_
      refine OWp.load (.tail _ (List.mem_append_right _ h6)) rfl rfl rfl rfl rfl ?_
      refine OWp.evs 1 rfl ?_
      refine OWp.g rfl rfl (Gives.indexAddrSlice (i) rfl rfl rfl rfl rfl rfl (by omega)) ?_
      refine OWp.load (.tail _ (List.mem_append_right _ (hMR _ hm2))) rfl rfl rfl rfl hgi ?_
      refine OWp.evs 1 rfl ?_
      refine OWp.g rfl rfl (Gives.indexAddrSlice (word s (k + 4 * i) * ms[i].length / 4294967296) rfl rfl rfl rfl rfl rfl hw) ?_
      refine OWp.load (.tail _ (List.mem_append_right _ (hMR _ hm3))) rfl rfl rfl rfl (hat3 _ hw) ?_
      refine OWp.step rfl (Step.buildSlice rfl rfl rfl ?_); intro Lp4 hBLp4 hLLp4
      refine OWp.step rfl (Step.appendAt [_, _] rfl rfl rfl rfl rfl rfl (by decide) rfl rfl ho (Reads.row (k := 1) (sz := 2) (.head _) (Nat.le_of_ble_eq_true rfl)) rfl (by show (_ + 1) * 24 ≤ _; omega) (by unfold maxLen; omega) ?_); intro lv2 es2 ho2 _
      refine OWp.dropAt 0 rfl ?_
      refine OWp.evs 1 rfl ?_
      refine OWp.nil ?_
      refine Wp.region ?_
      refine OWp.evs 3 rfl ?_
      refine OWp.nil ?_
      refine ⟨(i + 1, lv2, es2), by simp only; omega, ⟨by simp only; omega, ?_⟩, .cons rfl (.cons rfl (.cons rfl (.cons rfl (.cons rfl (.cons rfl (.cons rfl (.cons rfl (.cons' rfl (int_eq (by simp only; rw [i64_id] <;> omega)) (.nil _))))))))), ?_⟩
      · simp only
        rw [picks_snoc, ← List.cons_append, List.flatMap_append]
        have e : pick s k ms i = ms[i][word s (k + 4 * i) * ms[i].length / 4294967296] := by simp [pick, hi1, hw]
        rw [e]
        rw [List.flatMap_singleton]
        exact ho2
      · exact .refl _
    have g1 := of_decide_eq_false g1
    obtain rfl : i = ms.length := by omega
    refine Wp.exit ?_
    refine Wp.seq (Wp.region ?_)
    refine OWp.evs 1 rfl ?_
    refine OWp.load (.tail _ (List.mem_append_right _ (by rw [hM]; exact .tail _ (.tail _ (.tail _ (.head _)))))) rfl rfl rfl rfl rfl ?_
    refine OWp.step rfl (Step.buildSlice rfl rfl rfl ?_); intro Lp5 hBLp5 hLLp5
    refine OWp.step rfl (Step.appendAt [_, _] rfl rfl rfl rfl rfl rfl (by decide) rfl rfl ho (Reads.row (k := 1) (sz := 2) (.head _) (Nat.le_of_ble_eq_true rfl)) rfl (by show (_ + 1) * 24 ≤ _; omega) (by unfold maxLen; omega) ?_); intro lv3 es3 ho3 _
    refine OWp.dropAt 0 rfl ?_
    refine OWp.evs 1 rfl ?_
    refine OWp.nil ?_
    refine Wp.seq (Wp.region ?_)
    refine OWp.step rfl (Step.alloc rfl rfl rfl ?_); intro L20 hBL20 hLL20
    obtain ⟨N, hN⟩ : ∃ N, N = wayN s k a b ms := ⟨_, rfl⟩
    have hNl : N.length = ms.length + 2 := by rw [hN, wayN_len]
    have ho4 : Lg.Own B 31 2 lv3 N.length (N.flatMap ndc) es3 := by
      have e : N.flatMap ndc = (a :: picks s k ms ms.length).flatMap ndc ++ ndc b := by rw [hN]; unfold wayN; rw [← List.cons_append, List.flatMap_append, List.flatMap_singleton]
      rw [e, hNl]
      exact ho3
    obtain ⟨b5, o5, c5, l5, t5, f5, hv5, hm5, hat5⟩ := ncell_at ho4.reads (by omega)
    subst hv5
    refine OWp.nil ?_
    subst hM
    refine Wp.seq ?_
    refine Wp.seq (Wp.region ?_)
    refine OWp.evs 1 rfl ?_
    refine OWp.nil ?_
    refine Wp.block ?_
    refine Wp.loopS (α := Nat × (Value × Ents) × (Value × Ents)) (fun z => ms.length + 2 - z.1) (fun z => [(1, pt p), (10, pt L10), (11, pt L11), (12, pt L12), (13, .int .i64 0), (16, .slice (some ⟨b5, o5, none⟩) N.length c5), (20, pt L20), (21, .int .i64 (z.1 : Int))]) (fun z => rtp p s (k + 4 * (ms.length + z.1)) :: (L20, cel [z.2.1.1, z.2.2.1] 56) :: (z.2.1.2 ++ (z.2.2.2 ++ (es3 ++ ([(L12, cel [.slice none 0 0, .slice none 0 0] 56), (L11, cel [.int .i64 mean, .int .i64 most] 45), (L10, cel h.cells 43), (L9, cel (ndc b) 31), (L8, cel (ndc a) 31), (L6, cel [.slice a1 h0.length c1, .slice a2 ms.length c2, .slice a3 ss.length c3] 26)] ++ R))))) (fun z => z.1 ≤ ms.length + 1 ∧ Lg.Own B 9 1 z.2.1.1 z.1 (txt ((N.take z.1).map (·.2))) z.2.1.2 ∧ Lg.Own B 43 5 z.2.2.1 z.1 ((hopsW s k mean most ms.length N z.1).flatMap Hop.cells) z.2.2.2) (0, (.slice none 0 0, []), (.slice none 0 0, [])) ?_ (.swap _ _ _) ⟨Nat.zero_le _, Own.nil _ _ _, Own.nil _ _ _⟩ ?_
    · exact .cons rfl (.cons rfl (.cons rfl (.cons rfl (.cons rfl (.cons rfl (.cons rfl (.cons rfl (.nil _))))))))
    rintro ⟨j, ⟨pv, e1⟩, ⟨qv, e2⟩⟩ ⟨hj, hop, hoq⟩
    simp only at hj hop hoq ⊢
    have h10 : (L10, cel h.cells 43) ∈ [(L12, cel [.slice none 0 0, .slice none 0 0] 56), (L11, cel [.int .i64 mean, .int .i64 most] 45), (L10, cel h.cells 43), (L9, cel (ndc b) 31), (L8, cel (ndc a) 31), (L6, cel [.slice a1 h0.length c1, .slice a2 ms.length c2, .slice a3 ss.length c3] 26)] := .tail _ (.tail _ (.head _))
    have h11 : (L11, cel [.int .i64 mean, .int .i64 most] 45) ∈ [(L12, cel [.slice none 0 0, .slice none 0 0] 56), (L11, cel [.int .i64 mean, .int .i64 most] 45), (L10, cel h.cells 43), (L9, cel (ndc b) 31), (L8, cel (ndc a) 31), (L6, cel [.slice a1 h0.length c1, .slice a2 ms.length c2, .slice a3 ss.length c3] 26)] := .tail _ (.head _)
    refine Wp.seq ?_
    refine Wp.seq (Wp.region ?_)
    refine OWp.evs 4 rfl ?_
    refine OWp.nil ?_
    refine Wp.cond rfl (fun cc6 => ?_) (fun cc6 => absurd (of_decide_eq_false cc6) (by omega))
    have cc6 := of_decide_eq_true cc6
    refine Wp.skip ?_
    refine Wp.seq ?_
    refine Wp.block ?_
    refine Wp.seq (Wp.regionDraw [0, 1, 2, 3, 4, 5, 6, 7, 8, 9, 10] [7, 8, 10] rfl (by decide +kernel) ?_)
    refine DWp.evs 1 rfl ?_
    refine DWp.load (.tail _ (.head _)) rfl rfl rfl rfl rfl rfl rfl ?_
    refine DWp.evs 2 rfl ?_
    refine DWp.g rfl rfl rfl rfl (Gives.indexAddrSlice (j) rfl rfl rfl rfl rfl rfl (by omega)) ?_
    refine DWp.evs 1 rfl ?_
    refine DWp.load (.tail _ (.tail _ (List.mem_append_right _ (List.mem_append_right _ (List.mem_append_left _ hm5))))) rfl rfl rfl rfl rfl rfl (hat5 j (by omega)).2 ?_
    refine DWp.step rfl rfl rfl (Step.buildSlice rfl rfl rfl ?_); intro Lq hBLq hLLq
    refine ⟨by (repeat (first | exact pr_nil | refine pr_kept ?_ | refine pr_free ?_ | refine pr_cons (by repeat (first | exact List.Mem.head _ | assumption | exact List.mem_append_left _ (by assumption) | apply List.mem_cons_of_mem | apply List.mem_append_right)) ?_)), ?_⟩
    refine DWp.step rfl rfl rfl (Step.permS (show List.Perm ((Lq, cel [.string (str N[j].2)] 9) :: (rtp p s (k + 4 * (ms.length + j)) :: ((L20, cel [pv, qv] 56) :: (e1 ++ (e2 ++ (es3 ++ ((L12, cel [.slice none 0 0, .slice none 0 0] 56) :: ((L11, cel [.int .i64 mean, .int .i64 most] 45) :: ((L10, cel h.cells 43) :: ((L9, cel (ndc b) 31) :: ((L8, cel (ndc a) 31) :: ((L6, cel [.slice a1 h0.length c1, .slice a2 ms.length c2, .slice a3 ss.length c3] 26) :: (R))))))))))))) (e1 ++ ((Lq, cel [.string (str N[j].2)] 9) :: (rtp p s (k + 4 * (ms.length + j)) :: ((L20, cel [pv, qv] 56) :: (e2 ++ (es3 ++ ((L12, cel [.slice none 0 0, .slice none 0 0] 56) :: ((L11, cel [.int .i64 mean, .int .i64 most] 45) :: ((L10, cel h.cells 43) :: ((L9, cel (ndc b) 31) :: ((L8, cel (ndc a) 31) :: ((L6, cel [.slice a1 h0.length c1, .slice a2 ms.length c2, .slice a3 ss.length c3] 26) :: (R))))))))))))) from permBy [[(Lq, cel [.string (str N[j].2)] 9)], [rtp p s (k + 4 * (ms.length + j))], [(L20, cel [pv, qv] 56)], e1, e2, es3, [(L12, cel [.slice none 0 0, .slice none 0 0] 56), (L11, cel [.int .i64 mean, .int .i64 most] 45), (L10, cel h.cells 43), (L9, cel (ndc b) 31), (L8, cel (ndc a) 31), (L6, cel [.slice a1 h0.length c1, .slice a2 ms.length c2, .slice a3 ss.length c3] 26)]] (R) [0, 1, 2, 3, 4, 5, 6] [3, 0, 1, 2, 4, 5, 6] (by decide)) (Step.appendAt [] rfl rfl rfl rfl rfl rfl (by decide) rfl rfl hop (Reads.row (k := 1) (sz := 1) (List.mem_append_right [] (List.mem_append_right _ (.head _))) (Nat.le_of_ble_eq_true rfl)) rfl (by show (_ + 1) * 16 ≤ _; omega) (by unfold maxLen; omega) ?_))
    intro pv2 e12 hop2 _
    obtain ⟨pa, pc, rfl⟩ := hop2.reads.form
    refine ⟨by (repeat (first | exact pr_nil | refine pr_kept ?_ | refine pr_free ?_ | refine pr_cons (by repeat (first | exact List.Mem.head _ | assumption | exact List.mem_append_left _ (by assumption) | apply List.mem_cons_of_mem | apply List.mem_append_right)) ?_)), ?_⟩
    refine DWp.evs 1 rfl ?_
    refine DWp.step rfl rfl rfl (Step.permS (show List.Perm (e12 ++ ((Lq, cel [.string (str N[j].2)] 9) :: (rtp p s (k + 4 * (ms.length + j)) :: ((L20, cel [pv, qv] 56) :: (e2 ++ (es3 ++ ((L12, cel [.slice none 0 0, .slice none 0 0] 56) :: ((L11, cel [.int .i64 mean, .int .i64 most] 45) :: ((L10, cel h.cells 43) :: ((L9, cel (ndc b) 31) :: ((L8, cel (ndc a) 31) :: ((L6, cel [.slice a1 h0.length c1, .slice a2 ms.length c2, .slice a3 ss.length c3] 26) :: (R))))))))))))) ((L20, cel [pv, qv] 56) :: (e12 ++ ((Lq, cel [.string (str N[j].2)] 9) :: (rtp p s (k + 4 * (ms.length + j)) :: (e2 ++ (es3 ++ ((L12, cel [.slice none 0 0, .slice none 0 0] 56) :: ((L11, cel [.int .i64 mean, .int .i64 most] 45) :: ((L10, cel h.cells 43) :: ((L9, cel (ndc b) 31) :: ((L8, cel (ndc a) 31) :: ((L6, cel [.slice a1 h0.length c1, .slice a2 ms.length c2, .slice a3 ss.length c3] 26) :: (R))))))))))))) from permBy [e12, [(Lq, cel [.string (str N[j].2)] 9)], [rtp p s (k + 4 * (ms.length + j))], [(L20, cel [pv, qv] 56)], e2, es3, [(L12, cel [.slice none 0 0, .slice none 0 0] 56), (L11, cel [.int .i64 mean, .int .i64 most] 45), (L10, cel h.cells 43), (L9, cel (ndc b) 31), (L8, cel (ndc a) 31), (L6, cel [.slice a1 h0.length c1, .slice a2 ms.length c2, .slice a3 ss.length c3] 26)]] (R) [0, 1, 2, 3, 4, 5, 6] [3, 0, 1, 2, 4, 5, 6] (by decide)) (Step.storeAs 0 [.slice pa (j + 1) pc, qv] rfl rfl rfl rfl rfl hBL20 rfl (Unfz.zero _) rfl (Nat.le_of_ble_eq_true rfl) rfl rfl ?_))
    refine ⟨by (repeat (first | exact pr_nil | refine pr_kept ?_ | refine pr_free ?_ | refine pr_cons (by repeat (first | exact List.Mem.head _ | assumption | exact List.mem_append_left _ (by assumption) | apply List.mem_cons_of_mem | apply List.mem_append_right)) ?_)), ?_⟩
    refine DWp.nil ?_
    show Wp _ _ _ _ _ _ _
    refine Wp.permS (show List.Perm ((L20, cel [.slice pa (j + 1) pc, qv] 56) :: (e12 ++ ((Lq, cel [.string (str N[j].2)] 9) :: (rtp p s (k + 4 * (ms.length + j)) :: (e2 ++ (es3 ++ ((L12, cel [.slice none 0 0, .slice none 0 0] 56) :: ((L11, cel [.int .i64 mean, .int .i64 most] 45) :: ((L10, cel h.cells 43) :: ((L9, cel (ndc b) 31) :: ((L8, cel (ndc a) 31) :: ((L6, cel [.slice a1 h0.length c1, .slice a2 ms.length c2, .slice a3 ss.length c3] 26) :: (R))))))))))))) (rtp p s (k + 4 * (ms.length + j)) :: ((L20, cel [.slice pa (j + 1) pc, qv] 56) :: (e12 ++ (e2 ++ (es3 ++ ((L12, cel [.slice none 0 0, .slice none 0 0] 56) :: ((L11, cel [.int .i64 mean, .int .i64 most] 45) :: ((L10, cel h.cells 43) :: ((L9, cel (ndc b) 31) :: ((L8, cel (ndc a) 31) :: ((L6, cel [.slice a1 h0.length c1, .slice a2 ms.length c2, .slice a3 ss.length c3] 26) :: ((Lq, cel [.string (str N[j].2)] 9) :: (R))))))))))))) from permBy [[(L20, cel [.slice pa (j + 1) pc, qv] 56)], e12, [(Lq, cel [.string (str N[j].2)] 9)], [rtp p s (k + 4 * (ms.length + j))], e2, es3, [(L12, cel [.slice none 0 0, .slice none 0 0] 56), (L11, cel [.int .i64 mean, .int .i64 most] 45), (L10, cel h.cells 43), (L9, cel (ndc b) 31), (L8, cel (ndc a) 31), (L6, cel [.slice a1 h0.length c1, .slice a2 ms.length c2, .slice a3 ss.length c3] 26)]] (R) [0, 1, 2, 3, 4, 5, 6] [3, 0, 1, 4, 5, 6, 2] (by decide)) ?_
    have hop3 : Lg.Own B 9 1 (.slice pa (j + 1) pc) (j + 1) (txt ((N.take (j + 1)).map (·.2))) e12 := by
      rw [List.take_succ_eq_append_getElem (show j < N.length by omega), List.map_append, List.map_singleton, txt_snoc]
      exact hop2
    refine Wp.seq ?_
    refine Wp.seq (Wp.region ?_)
    refine OWp.evs 5 rfl ?_
    refine OWp.nil ?_
    refine Wp.cond rfl (fun g2 => ?_) (fun g2 => ?_)
    · have g2 := of_decide_eq_true g2
      obtain rfl : j = ms.length + 1 := by rw [i64_id] at g2 <;> omega
      refine Wp.seq (Wp.region ?_)
      refine OWp.evs 1 rfl ?_
      refine OWp.load (.tail _ (.head _)) rfl rfl rfl rfl rfl ?_
      refine OWp.load (.tail _ (.tail _ (List.mem_append_right _ (List.mem_append_right _ (List.mem_append_right _ (List.mem_append_left _ h10)))))) rfl rfl rfl rfl rfl ?_
      refine OWp.step rfl (Step.buildSlice rfl rfl rfl ?_); intro Lr hBLr hLLr
      refine OWp.step rfl (Step.appendAt ((Lr, _) :: (p, _) :: (L20, _) :: e12) rfl rfl rfl rfl rfl rfl (by decide) rfl rfl hoq (Reads.row (k := 1) (sz := 5) (.head _) (Nat.le_of_ble_eq_true rfl)) rfl (by show (_ + 1) * 48 ≤ _; omega) (by unfold maxLen; omega) ?_)
      intro qv2 e22 hoq2 _
      obtain ⟨qa, qc, rfl⟩ := hoq2.reads.form
      refine OWp.evs 1 rfl ?_
      refine OWp.step rfl (Step.storeAs 2 ([.slice pa (ms.length + 2) pc, .slice qa (ms.length + 2) qc]) rfl rfl rfl rfl rfl (by assumption) rfl (Unfz.zero _) rfl (Nat.le_of_ble_eq_true rfl) rfl rfl ?_)
      refine OWp.nil ?_
      refine Wp.exit ?_
      refine Wp.seq (Wp.region ?_)
      refine OWp.load (.tail _ (.tail _ (.head _))) rfl rfl rfl rfl rfl ?_
      refine OWp.step rfl (Step.permS (show List.Perm ([(Lr, cel h.cells 43), rtp p s (k + 4 * (ms.length + (ms.length + 1))), (L20, cel [.slice pa (ms.length + 2) pc, .slice qa (ms.length + 2) qc] 56)] ++ (e12 ++ (e22 ++ (es3 ++ ([(L12, cel [.slice none 0 0, .slice none 0 0] 56), (L11, cel [.int .i64 mean, .int .i64 most] 45), (L10, cel h.cells 43), (L9, cel (ndc b) 31), (L8, cel (ndc a) 31), (L6, cel [.slice a1 h0.length c1, .slice a2 ms.length c2, .slice a3 ss.length c3] 26)] ++ ((Lq, cel [.string (str N[ms.length + 1].2)] 9) :: R)))))) ([(L12, cel [.slice none 0 0, .slice none 0 0] 56), (L11, cel [.int .i64 mean, .int .i64 most] 45), (L10, cel h.cells 43), (L9, cel (ndc b) 31), (L8, cel (ndc a) 31), (L6, cel [.slice a1 h0.length c1, .slice a2 ms.length c2, .slice a3 ss.length c3] 26)] ++ ([rtp p s (k + 4 * (ms.length + (ms.length + 1)))] ++ (e12 ++ (e22 ++ (es3 ++ ([(Lr, cel h.cells 43), (L20, cel [.slice pa (ms.length + 2) pc, .slice qa (ms.length + 2) qc] 56)] ++ ((Lq, cel [.string (str N[ms.length + 1].2)] 9) :: R))))))) from permBy [[(Lr, cel h.cells 43)], [rtp p s (k + 4 * (ms.length + (ms.length + 1)))], [(L20, cel [.slice pa (ms.length + 2) pc, .slice qa (ms.length + 2) qc] 56)], e12, e22, es3, [(L12, cel [.slice none 0 0, .slice none 0 0] 56), (L11, cel [.int .i64 mean, .int .i64 most] 45), (L10, cel h.cells 43), (L9, cel (ndc b) 31), (L8, cel (ndc a) 31), (L6, cel [.slice a1 h0.length c1, .slice a2 ms.length c2, .slice a3 ss.length c3] 26)]] ((Lq, cel [.string (str N[ms.length + 1].2)] 9) :: R) [0, 1, 2, 3, 4, 5, 6] [6, 1, 3, 4, 5, 0, 2] (by decide)) (Step.storeAs 0 [.slice pa (ms.length + 2) pc, .slice qa (ms.length + 2) qc] rfl rfl rfl rfl rfl hBL12 rfl (Unfz.zero _) rfl (Nat.le_of_ble_eq_true rfl) rfl rfl ?_))
      refine OWp.evs 1 rfl ?_
      refine OWp.nil ?_
      refine Wp.ret ⟨trivial, _, ⟨_, _, _, _, rfl, rfl, ⟨_, _, _, (by repeat (first | exact List.Mem.head _ | assumption | exact List.mem_append_left _ (by assumption) | apply List.mem_cons_of_mem | apply List.mem_append_right)), (by first | assumption | rfl)⟩, ⟨_, _, rfl, rfl, rfl⟩⟩, ?_⟩
      refine ⟨_, rtp p s (k + 4 * (ms.length + (ms.length + 1))) :: (e12 ++ (e22 ++ R)), .refl _, ?_, ?_⟩
      · refine .cons _ (.cons _ (.cons _ (.cons _ (.cons _ (.cons _ (.cons_cons _ ((List.Sublist.refl _).append ((List.Sublist.refl _).append (by repeat (first | exact List.Sublist.refl _ | exact List.sublist_append_right _ _ | apply List.Sublist.cons | refine List.Sublist.trans ?_ (List.sublist_append_right _ _)))))))))))
      have e : wayR s k a b ms h mean most = (N.map (·.2), hopsW s k mean most ms.length N (ms.length + 1) ++ [h], 0, k + 4 * (2 * ms.length + 1)) := by unfold wayR; rw [if_neg (by simpa using hm), if_neg ht, hN]
      rw [e] at H
      have e2 : k + 4 * (ms.length + (ms.length + 1)) = k + 4 * (2 * ms.length + 1) := by omega
      rw [e2]
      refine H _ _ e12 e22 ?_ ?_
      · rw [List.take_of_length_le (by omega)] at hop3
        rw [List.length_map, hNl]
        exact hop3
      · rw [List.flatMap_append, List.flatMap_singleton, List.length_append, hopsW_len]
        exact hoq2
    have g2 := of_decide_eq_false g2
    have hj1 : j < ms.length + 1 := by rw [i64_id] at g2 <;> omega
    refine Wp.skip ?_
    refine Wp.seq (Wp.region ?_)
    refine OWp.evs 2 rfl ?_
    refine OWp.load (.tail _ (.tail _ (List.mem_append_right _ (List.mem_append_right _ (List.mem_append_right _ (List.mem_append_left _ h11)))))) rfl rfl rfl rfl rfl ?_
    refine OWp.evs 1 rfl ?_
    refine OWp.load (.tail _ (.tail _ (List.mem_append_right _ (List.mem_append_right _ (List.mem_append_right _ (List.mem_append_left _ h11)))))) rfl rfl rfl rfl rfl ?_
    refine OWp.step rfl (Step.call rfl rfl rfl rfl rfl rfl ((rdrawC hB hs (by omega) ?_)))
    rw [drawR_yes hm (by omega)]
    refine OWp.evs 5 rfl ?_
    refine OWp.nil ?_
    refine Wp.regionDraw [0, 1, 2, 3, 4, 5, 6, 7, 8, 9, 10, 11, 12, 13] [10, 11, 13] rfl (by decide +kernel) ?_
    refine DWp.evs 1 rfl ?_
    refine DWp.load (.tail _ (.head _)) rfl rfl rfl rfl rfl rfl rfl ?_
    refine DWp.evs 3 rfl ?_
    refine DWp.g rfl rfl rfl rfl (Gives.indexAddrSlice (j + 1) rfl rfl rfl rfl rfl (by rw [i64_id] <;> omega) (by omega)) ?_
    refine DWp.evs 1 rfl ?_
    refine DWp.load (.tail _ (.tail _ (List.mem_append_right _ (List.mem_append_right _ (List.mem_append_left _ hm5))))) rfl rfl rfl rfl rfl rfl (hat5 (j + 1) (by omega)).1 ?_
    refine DWp.evs 1 rfl ?_
    refine DWp.g rfl rfl rfl rfl (Gives.build rfl rfl) ?_
    refine DWp.step rfl rfl rfl (Step.buildSlice rfl rfl rfl ?_); intro Lr hBLr hLLr
    refine ⟨by (repeat (first | exact pr_nil | refine pr_kept ?_ | refine pr_free ?_ | refine pr_cons (by repeat (first | exact List.Mem.head _ | assumption | exact List.mem_append_left _ (by assumption) | apply List.mem_cons_of_mem | apply List.mem_append_right)) ?_)), ?_⟩
    refine DWp.step rfl rfl rfl (Step.permS (show List.Perm ((Lr, cel [.int .i64 1, .int .i64 N[j + 1].1, .int .i64 0, .int .i64 (dl mean.toNat (word s (k + 4 * (ms.length + j))) most.toNat : Nat), .string ByteArray.empty] 43) :: (rtp p s (k + 4 * (ms.length + j) + 4) :: ((L20, cel [.slice pa (j + 1) pc, qv] 56) :: (e12 ++ (e2 ++ (es3 ++ ((L12, cel [.slice none 0 0, .slice none 0 0] 56) :: ((L11, cel [.int .i64 mean, .int .i64 most] 45) :: ((L10, cel h.cells 43) :: ((L9, cel (ndc b) 31) :: ((L8, cel (ndc a) 31) :: ((L6, cel [.slice a1 h0.length c1, .slice a2 ms.length c2, .slice a3 ss.length c3] 26) :: ((Lq, cel [.string (str N[j].2)] 9) :: (R)))))))))))))) (e2 ++ ((Lr, cel [.int .i64 1, .int .i64 N[j + 1].1, .int .i64 0, .int .i64 (dl mean.toNat (word s (k + 4 * (ms.length + j))) most.toNat : Nat), .string ByteArray.empty] 43) :: (rtp p s (k + 4 * (ms.length + j) + 4) :: ((L20, cel [.slice pa (j + 1) pc, qv] 56) :: (e12 ++ (es3 ++ ((L12, cel [.slice none 0 0, .slice none 0 0] 56) :: ((L11, cel [.int .i64 mean, .int .i64 most] 45) :: ((L10, cel h.cells 43) :: ((L9, cel (ndc b) 31) :: ((L8, cel (ndc a) 31) :: ((L6, cel [.slice a1 h0.length c1, .slice a2 ms.length c2, .slice a3 ss.length c3] 26) :: ((Lq, cel [.string (str N[j].2)] 9) :: (R)))))))))))))) from permBy [[(Lr, cel [.int .i64 1, .int .i64 N[j + 1].1, .int .i64 0, .int .i64 (dl mean.toNat (word s (k + 4 * (ms.length + j))) most.toNat : Nat), .string ByteArray.empty] 43)], [rtp p s (k + 4 * (ms.length + j) + 4)], [(L20, cel [.slice pa (j + 1) pc, qv] 56)], e12, e2, es3, [(L12, cel [.slice none 0 0, .slice none 0 0] 56), (L11, cel [.int .i64 mean, .int .i64 most] 45), (L10, cel h.cells 43), (L9, cel (ndc b) 31), (L8, cel (ndc a) 31), (L6, cel [.slice a1 h0.length c1, .slice a2 ms.length c2, .slice a3 ss.length c3] 26)], [(Lq, cel [.string (str N[j].2)] 9)]] (R) [0, 1, 2, 3, 4, 5, 6, 7] [4, 0, 1, 2, 3, 5, 6, 7] (by decide)) (Step.appendAt [] rfl rfl rfl rfl rfl rfl (by decide) rfl rfl hoq (Reads.row (k := 1) (sz := 5) (List.mem_append_right [] (List.mem_append_right _ (.head _))) (Nat.le_of_ble_eq_true rfl)) rfl (by show (_ + 1) * 48 ≤ _; omega) (by unfold maxLen; omega) ?_))
    intro qv2 e22 hoq2 _
    obtain ⟨qa, qc, rfl⟩ := hoq2.reads.form
    refine ⟨by (repeat (first | exact pr_nil | refine pr_kept ?_ | refine pr_free ?_ | refine pr_cons (by repeat (first | exact List.Mem.head _ | assumption | exact List.mem_append_left _ (by assumption) | apply List.mem_cons_of_mem | apply List.mem_append_right)) ?_)), ?_⟩
    refine DWp.evs 1 rfl ?_
    refine DWp.step rfl rfl rfl (Step.permS (show List.Perm (e22 ++ ((Lr, cel [.int .i64 1, .int .i64 N[j + 1].1, .int .i64 0, .int .i64 (dl mean.toNat (word s (k + 4 * (ms.length + j))) most.toNat : Nat), .string ByteArray.empty] 43) :: (rtp p s (k + 4 * (ms.length + j) + 4) :: ((L20, cel [.slice pa (j + 1) pc, qv] 56) :: (e12 ++ (es3 ++ ((L12, cel [.slice none 0 0, .slice none 0 0] 56) :: ((L11, cel [.int .i64 mean, .int .i64 most] 45) :: ((L10, cel h.cells 43) :: ((L9, cel (ndc b) 31) :: ((L8, cel (ndc a) 31) :: ((L6, cel [.slice a1 h0.length c1, .slice a2 ms.length c2, .slice a3 ss.length c3] 26) :: ((Lq, cel [.string (str N[j].2)] 9) :: (R)))))))))))))) ((L20, cel [.slice pa (j + 1) pc, qv] 56) :: (e22 ++ ((Lr, cel [.int .i64 1, .int .i64 N[j + 1].1, .int .i64 0, .int .i64 (dl mean.toNat (word s (k + 4 * (ms.length + j))) most.toNat : Nat), .string ByteArray.empty] 43) :: (rtp p s (k + 4 * (ms.length + j) + 4) :: (e12 ++ (es3 ++ ((L12, cel [.slice none 0 0, .slice none 0 0] 56) :: ((L11, cel [.int .i64 mean, .int .i64 most] 45) :: ((L10, cel h.cells 43) :: ((L9, cel (ndc b) 31) :: ((L8, cel (ndc a) 31) :: ((L6, cel [.slice a1 h0.length c1, .slice a2 ms.length c2, .slice a3 ss.length c3] 26) :: ((Lq, cel [.string (str N[j].2)] 9) :: (R)))))))))))))) from permBy [e22, [(Lr, cel [.int .i64 1, .int .i64 N[j + 1].1, .int .i64 0, .int .i64 (dl mean.toNat (word s (k + 4 * (ms.length + j))) most.toNat : Nat), .string ByteArray.empty] 43)], [rtp p s (k + 4 * (ms.length + j) + 4)], [(L20, cel [.slice pa (j + 1) pc, qv] 56)], e12, es3, [(L12, cel [.slice none 0 0, .slice none 0 0] 56), (L11, cel [.int .i64 mean, .int .i64 most] 45), (L10, cel h.cells 43), (L9, cel (ndc b) 31), (L8, cel (ndc a) 31), (L6, cel [.slice a1 h0.length c1, .slice a2 ms.length c2, .slice a3 ss.length c3] 26)], [(Lq, cel [.string (str N[j].2)] 9)]] (R) [0, 1, 2, 3, 4, 5, 6, 7] [3, 0, 1, 2, 4, 5, 6, 7] (by decide)) (Step.storeAs 0 [.slice pa (j + 1) pc, .slice qa (j + 1) qc] rfl rfl rfl rfl rfl hBL20 rfl (Unfz.zero _) rfl (Nat.le_of_ble_eq_true rfl) rfl rfl ?_))
    refine ⟨by (repeat (first | exact pr_nil | refine pr_kept ?_ | refine pr_free ?_ | refine pr_cons (by repeat (first | exact List.Mem.head _ | assumption | exact List.mem_append_left _ (by assumption) | apply List.mem_cons_of_mem | apply List.mem_append_right)) ?_)), ?_⟩
    refine DWp.nil ?_
    show Wp _ _ _ _ _ _ _
    refine Wp.permS (show List.Perm ((L20, cel [.slice pa (j + 1) pc, .slice qa (j + 1) qc] 56) :: (e22 ++ ((Lr, cel [.int .i64 1, .int .i64 N[j + 1].1, .int .i64 0, .int .i64 (dl mean.toNat (word s (k + 4 * (ms.length + j))) most.toNat : Nat), .string ByteArray.empty] 43) :: (rtp p s (k + 4 * (ms.length + j) + 4) :: (e12 ++ (es3 ++ ((L12, cel [.slice none 0 0, .slice none 0 0] 56) :: ((L11, cel [.int .i64 mean, .int .i64 most] 45) :: ((L10, cel h.cells 43) :: ((L9, cel (ndc b) 31) :: ((L8, cel (ndc a) 31) :: ((L6, cel [.slice a1 h0.length c1, .slice a2 ms.length c2, .slice a3 ss.length c3] 26) :: ((Lq, cel [.string (str N[j].2)] 9) :: (R)))))))))))))) ((Lq, cel [.string (str N[j].2)] 9) :: ((Lr, cel [.int .i64 1, .int .i64 N[j + 1].1, .int .i64 0, .int .i64 (dl mean.toNat (word s (k + 4 * (ms.length + j))) most.toNat : Nat), .string ByteArray.empty] 43) :: (rtp p s (k + 4 * (ms.length + j) + 4) :: ((L20, cel [.slice pa (j + 1) pc, .slice qa (j + 1) qc] 56) :: (e12 ++ (e22 ++ (es3 ++ ((L12, cel [.slice none 0 0, .slice none 0 0] 56) :: ((L11, cel [.int .i64 mean, .int .i64 most] 45) :: ((L10, cel h.cells 43) :: ((L9, cel (ndc b) 31) :: ((L8, cel (ndc a) 31) :: ((L6, cel [.slice a1 h0.length c1, .slice a2 ms.length c2, .slice a3 ss.length c3] 26) :: (R)))))))))))))) from permBy [[(L20, cel [.slice pa (j + 1) pc, .slice qa (j + 1) qc] 56)], e22, [(Lr, cel [.int .i64 1, .int .i64 N[j + 1].1, .int .i64 0, .int .i64 (dl mean.toNat (word s (k + 4 * (ms.length + j))) most.toNat : Nat), .string ByteArray.empty] 43)], [rtp p s (k + 4 * (ms.length + j) + 4)], e12, es3, [(L12, cel [.slice none 0 0, .slice none 0 0] 56), (L11, cel [.int .i64 mean, .int .i64 most] 45), (L10, cel h.cells 43), (L9, cel (ndc b) 31), (L8, cel (ndc a) 31), (L6, cel [.slice a1 h0.length c1, .slice a2 ms.length c2, .slice a3 ss.length c3] 26)], [(Lq, cel [.string (str N[j].2)] 9)]] (R) [0, 1, 2, 3, 4, 5, 6, 7] [7, 2, 3, 0, 4, 1, 5, 6] (by decide)) ?_
    refine Wp.drop (.cons _ (.cons _ (.refl _))) ?_
    refine Wp.region ?_
    refine OWp.evs 3 rfl ?_
    refine OWp.nil ?_
    refine ⟨(j + 1, (.slice pa (j + 1) pc, e12), (.slice qa (j + 1) qc, e22)), by simp only; omega, ⟨by simp only; omega, hop3, ?_⟩, .cons rfl (.cons rfl (.cons rfl (.cons rfl (.cons rfl (.cons rfl (.cons rfl (.cons' rfl (int_eq (by simp only; rw [i64_id] <;> omega)) (.nil _)))))))), ?_⟩
    · simp only
      rw [hopsW_snoc, List.flatMap_append, List.flatMap_singleton]
      have e : hopW s k mean most ms.length N j = ⟨1, N[j + 1].1, 0, (dl mean.toNat (word s (k + 4 * (ms.length + j))) most.toNat : Nat), []⟩ := by simp [hopW, waitW, hNl, hj1]
      rw [e]
      exact hoq2
    · exact .refl _
  refine OWp.step rfl (Step.call rfl rfl rfl rfl rfl rfl ((rtable_no hm ?_)))
  refine OWp.evs 5 rfl ?_
  refine OWp.nil ?_
  refine Wp.seq (Wp.region ?_)
  refine OWp.evs 2 rfl ?_
  refine OWp.nil ?_
  refine Wp.cond rfl (fun cc7 => ?_) (fun cc7 => absurd (ndF cc7) (by exact fun h => nomatch h))
  have cc7 := ndT cc7
  refine Wp.seq (Wp.region ?_)
  refine OWp.g rfl rfl (Gives.build rfl rfl) ?_
  refine OWp.evs 1 rfl ?_
  refine OWp.step rfl (Step.storeAs 0 [.slice none 0 0, .slice none 0 0] rfl rfl rfl rfl rfl hBL12 rfl (Unfz.zero _) rfl (Nat.le_of_ble_eq_true rfl) rfl rfl ?_)
  refine OWp.evs 1 rfl ?_
  refine OWp.nil ?_
  refine Wp.ret ⟨trivial, _, ⟨_, _, _, _, rfl, rfl, ⟨_, _, _, (by repeat (first | exact List.Mem.head _ | assumption | exact List.mem_append_left _ (by assumption) | apply List.mem_cons_of_mem | apply List.mem_append_right)), (by first | assumption | rfl)⟩, ⟨_, _, rfl, rfl, rfl⟩⟩, ?_⟩
  have e : wayR s k a b ms h mean most = ([], [], 1, k) := by unfold wayR; rw [if_pos hm]
  rw [e] at H
  exact ⟨_, _, .refl _, (by repeat (first | exact List.Sublist.refl _ | exact List.sublist_append_right _ _ | apply List.Sublist.cons)), H _ _ _ _ (Own.nil _ _ _) (Own.nil _ _ _)⟩
end
end Go.Proofs.C

namespace Go.Proofs.C
open Go.Lg
set_option maxRecDepth 100000

section
variable {B : Nat} {S R : Ents} {Q : Value → Ents → Prop} {p k : Nat} {s : List UInt8} {hv mv sv : Value} {h0 : List Nd} {ms : List (List Nd)} {ss : List St} {a b : Nd} {h : Hop} {mean most : Int}

set_option maxHeartbeats 2000000 in
theorem rhomeG {X : Value} {frm to : Int} {id : List UInt8} {Post : Nd → Nd → List Value → Int → Ents → Ents → Prop} (hT : TIn S hv mv sv h0 ms ss) (htt : (h0 :: ms).flatten.length ≤ 1099511627776)
    (hd : TownOk (h0 :: ms) ss → hopP ⟨2, 0, to, 0, id⟩ → DrawSpec 35 B (.agg #[hv, mv, sv]) X (.agg #[.int .i64 mean, .int .i64 most]) ⟨2, 0, to, 0, id⟩ S Post)
    (H0 : ∀ a e, HostOf (h0 :: ms) ss frm a e → e ≠ 0 → Q (.tuple #[.agg #[.slice none 0 0, .slice none 0 0], .int .i64 e]) S)
    (H1 : ∀ a b e, HostOf (h0 :: ms) ss frm a 0 → HostOf (h0 :: ms) ss to b e → e ≠ 0 → Q (.tuple #[.agg #[.slice none 0 0, .slice none 0 0], .int .i64 e]) S)
    (H2 : ∀ a b, HostOf (h0 :: ms) ss frm a 0 → HostOf (h0 :: ms) ss to b 0 → ¬ hopP ⟨2, 0, to, 0, id⟩ → Q (.tuple #[.agg #[.slice none 0 0, .slice none 0 0], .int .i64 70]) S)
    (H3 : ∀ a b a1 n1 c1 a2 n2 c2 e F G, HostOf (h0 :: ms) ss frm a 0 → HostOf (h0 :: ms) ss to b 0 → hopP ⟨2, 0, to, 0, id⟩ → Post a b (way2 a1 n1 c1 a2 n2 c2) e F G → Q (.tuple #[.agg (way2 a1 n1 c1 a2 n2 c2).toArray, .int .i64 e]) (F ++ G)) :
    CallWp Try.prog B 20 #[.agg #[hv, mv, sv], X, .int .i64 frm, .int .i64 to, .string (str id), .agg #[.int .i64 mean, .int .i64 most]] Q S := by
  obtain ⟨a1, c1, a2, c2, a3, c3, rfl, rfl, rfl⟩ := hT.forms
  refine subRet ?_
  refine CallWp.enter (args := [_, _, _, _, _, _]) Try.func20 rfl Try.ntmps20 rfl ?_
  refine Wp.seq (Wp.region ?_)
  refine OWp.step rfl (Step.box rfl rfl rfl ?_); intro L6 hBL6 hLL6
  refine OWp.step rfl (Step.box rfl rfl rfl ?_); intro L11 hBL11 hLL11
  refine OWp.step rfl (Step.alloc rfl rfl rfl ?_); intro L12 hBL12 hLL12
  refine OWp.evs 1 rfl ?_
  refine OWp.nil ?_
  refine Wp.seq (Wp.region ?_)
  refine OWp.load (.tail _ (.tail _ (.head _))) rfl rfl rfl rfl rfl ?_
  refine OWp.evs 1 rfl ?_
  refine OWp.step rfl (Step.call rfl rfl rfl rfl rfl rfl ((rHostC (hT.mono fun _ h => .tail _ (.tail _ (.tail _ h))) htt ?_)))
  intro a e ha
  refine OWp.evs 3 rfl ?_
  refine OWp.step rfl (Step.alloc rfl rfl rfl ?_); intro L14 hBL14 hLL14
  refine OWp.step rfl (Step.storeAs 0 ((ndc a)) rfl rfl rfl rfl rfl (by assumption) rfl (Unfz.zero _) rfl (Nat.le_of_ble_eq_true rfl) rfl rfl ?_)
  refine OWp.evs 1 rfl ?_
  refine OWp.nil ?_
  refine Wp.seq ?_
  refine Wp.seq (Wp.region ?_)
  refine OWp.evs 2 rfl ?_
  refine OWp.nil ?_
  refine Wp.cond rfl (fun he => ?_) (fun he => ?_)
  · have he := ndT he
    refine Wp.seq (Wp.region ?_)
    refine OWp.g rfl rfl (Gives.build rfl rfl) ?_
    refine OWp.evs 1 rfl ?_
    refine OWp.step rfl (Step.storeAs 1 ([.slice none 0 0, .slice none 0 0]) rfl rfl rfl rfl rfl (by assumption) rfl (Unfz.zero _) rfl (Nat.le_of_ble_eq_true rfl) rfl rfl ?_)
    refine OWp.evs 1 rfl ?_
    refine OWp.nil ?_
    refine Wp.ret ⟨trivial, _, ⟨_, _, _, _, rfl, rfl, ⟨_, _, _, (by repeat (first | exact List.Mem.head _ | assumption | exact List.mem_append_left _ (by assumption) | apply List.mem_cons_of_mem | apply List.mem_append_right)), (by first | assumption | rfl)⟩, ⟨_, _, rfl, rfl, rfl⟩⟩, ?_⟩
    exact ⟨_, _, .refl _, (by repeat (first | exact List.Sublist.refl _ | exact List.sublist_append_right _ _ | apply List.Sublist.cons)), H0 a e ha he⟩
  have he := ndF he
  subst he
  refine Wp.skip ?_
  refine Wp.seq (Wp.region ?_)
  refine OWp.load (.tail _ (.tail _ (.tail _ (.head _)))) rfl rfl rfl rfl rfl ?_
  refine OWp.evs 1 rfl ?_
  refine OWp.step rfl (Step.call rfl rfl rfl rfl rfl rfl ((rHostC (hT.mono fun _ h => .tail _ (.tail _ (.tail _ (.tail _ h)))) htt ?_)))
  intro b e hb
  refine OWp.evs 3 rfl ?_
  refine OWp.step rfl (Step.alloc rfl rfl rfl ?_); intro L16 hBL16 hLL16
  refine OWp.step rfl (Step.storeAs 0 ((ndc b)) rfl rfl rfl rfl rfl (by assumption) rfl (Unfz.zero _) rfl (Nat.le_of_ble_eq_true rfl) rfl rfl ?_)
  refine OWp.evs 1 rfl ?_
  refine OWp.nil ?_
  refine Wp.seq ?_
  refine Wp.seq (Wp.region ?_)
  refine OWp.evs 2 rfl ?_
  refine OWp.nil ?_
  refine Wp.cond rfl (fun he => ?_) (fun he => ?_)
  · have he := ndT he
    refine Wp.seq (Wp.region ?_)
    refine OWp.g rfl rfl (Gives.build rfl rfl) ?_
    refine OWp.evs 1 rfl ?_
    refine OWp.step rfl (Step.storeAs 2 ([.slice none 0 0, .slice none 0 0]) rfl rfl rfl rfl rfl (by assumption) rfl (Unfz.zero _) rfl (Nat.le_of_ble_eq_true rfl) rfl rfl ?_)
    refine OWp.evs 1 rfl ?_
    refine OWp.nil ?_
    refine Wp.ret ⟨trivial, _, ⟨_, _, _, _, rfl, rfl, ⟨_, _, _, (by repeat (first | exact List.Mem.head _ | assumption | exact List.mem_append_left _ (by assumption) | apply List.mem_cons_of_mem | apply List.mem_append_right)), (by first | assumption | rfl)⟩, ⟨_, _, rfl, rfl, rfl⟩⟩, ?_⟩
    exact ⟨_, _, .refl _, (by repeat (first | exact List.Sublist.refl _ | exact List.sublist_append_right _ _ | apply List.Sublist.cons)), H1 a b e ha hb he⟩
  have he := ndF he
  subst he
  refine Wp.skip ?_
  refine Wp.seq (Wp.region ?_)
  refine OWp.evs 2 rfl ?_
  refine OWp.g rfl rfl (Gives.build rfl rfl) ?_
  refine OWp.step rfl (Step.alloc rfl rfl rfl ?_); intro L17 hBL17 hLL17
  refine OWp.step rfl (Step.storeAs 0 ((Hop.cells ⟨2, 0, to, 0, id⟩)) rfl rfl rfl rfl rfl (by assumption) rfl (Unfz.zero _) rfl (Nat.le_of_ble_eq_true rfl) rfl rfl ?_)
  refine OWp.nil ?_
  refine Wp.seq ?_
  refine Wp.seq (Wp.region ?_)
  refine OWp.load (.head _) rfl rfl rfl rfl rfl ?_
  refine OWp.step rfl (Step.call rfl rfl rfl rfl rfl rfl ((rcheckC (x := ⟨2, 0, to, 0, id⟩) ?_)))
  by_cases hp : hopP ⟨2, 0, to, 0, id⟩
  · skip
    rw [hopE_yes hp]
    refine OWp.evs 1 rfl ?_
    refine OWp.nil ?_
    refine Wp.seq (Wp.region ?_)
    refine OWp.evs 2 rfl ?_
    refine OWp.nil ?_
    refine Wp.cond rfl (fun cc1 => absurd (ndT cc1) (by exact fun h => h rfl)) (fun cc1 => ?_)
    have cc1 := ndF cc1
    refine Wp.skip ?_
    refine Wp.seq (Wp.region ?_)
    refine OWp.load (.tail _ (.tail _ (.tail _ (.tail _ (.tail _ (.head _)))))) rfl rfl rfl rfl rfl ?_
    refine OWp.evs 1 rfl ?_
    refine OWp.load (.tail _ (.tail _ (.head _))) rfl rfl rfl rfl rfl ?_
    refine OWp.load (.tail _ (.head _)) rfl rfl rfl rfl rfl ?_
    refine OWp.load (.head _) rfl rfl rfl rfl rfl ?_
    refine OWp.load (.tail _ (.tail _ (.tail _ (.tail _ (.head _))))) rfl rfl rfl rfl rfl ?_
    have hok : TownOk (h0 :: ms) ss := by rcases hostOf_no ha with ⟨_, h, _⟩ | h | h; exact h; all_goals cases h
    refine OWp.step rfl (Step.call rfl rfl rfl rfl rfl rfl ((hd hok hp a b [(L17, cel (Hop.cells ⟨2, 0, to, 0, id⟩) 43), (L16, cel (ndc b) 31), (L14, cel (ndc a) 31), (L12, cel [.slice none 0 0, .slice none 0 0] 56), (L11, cel [.int .i64 mean, .int .i64 most] 45), (L6, cel [.slice a1 h0.length c1, .slice a2 ms.length c2, .slice a3 ss.length c3] 26)] _ ?_)))
    intro p1 n1 d1 p2 n2 d2 e F G hPost
    refine OWp.permS (List.perm_append_comm_assoc F _ G) ?_
    refine OWp.evs 2 rfl ?_
    refine OWp.step rfl (Step.storeAs 3 ((way2 p1 n1 d1 p2 n2 d2)) rfl rfl rfl rfl rfl (by assumption) rfl (Unfz.zero _) rfl (Nat.le_of_ble_eq_true rfl) rfl rfl ?_)
    refine OWp.evs 1 rfl ?_
    refine OWp.nil ?_
    refine Wp.ret ⟨trivial, _, ⟨_, _, _, _, rfl, rfl, ⟨_, _, _, (by repeat (first | exact List.Mem.head _ | assumption | exact List.mem_append_left _ (by assumption) | apply List.mem_cons_of_mem | apply List.mem_append_right)), (by first | assumption | rfl)⟩, ⟨_, _, rfl, rfl, rfl⟩⟩, ?_⟩
    exact ⟨_, _, .refl _, (by repeat (first | exact List.Sublist.refl _ | exact List.sublist_append_right _ _ | apply List.Sublist.cons)), H3 a b p1 n1 d1 p2 n2 d2 e F G ha hb hp hPost⟩
  rw [hopE_no hp]
  refine OWp.evs 1 rfl ?_
  refine OWp.nil ?_
  refine Wp.seq (Wp.region ?_)
  refine OWp.evs 2 rfl ?_
  refine OWp.nil ?_
  refine Wp.cond rfl (fun cc2 => ?_) (fun cc2 => absurd (ndF cc2) (by exact fun h => nomatch h))
  have cc2 := ndT cc2
  refine Wp.seq (Wp.region ?_)
  refine OWp.g rfl rfl (Gives.build rfl rfl) ?_
  refine OWp.evs 1 rfl ?_
  refine OWp.step rfl (Step.storeAs 3 ([.slice none 0 0, .slice none 0 0]) rfl rfl rfl rfl rfl (by assumption) rfl (Unfz.zero _) rfl (Nat.le_of_ble_eq_true rfl) rfl rfl ?_)
  refine OWp.evs 1 rfl ?_
  refine OWp.nil ?_
  refine Wp.ret ⟨trivial, _, ⟨_, _, _, _, rfl, rfl, ⟨_, _, _, (by repeat (first | exact List.Mem.head _ | assumption | exact List.mem_append_left _ (by assumption) | apply List.mem_cons_of_mem | apply List.mem_append_right)), (by first | assumption | rfl)⟩, ⟨_, _, rfl, rfl, rfl⟩⟩, ?_⟩
  exact ⟨_, _, .refl _, (by repeat (first | exact List.Sublist.refl _ | exact List.sublist_append_right _ _ | apply List.Sublist.cons)), H2 a b ha hb hp⟩
set_option maxHeartbeats 2000000 in
theorem rlooseG {X : Value} {frm number : Int} {Post : Nd → Nd → List Value → Int → Ents → Ents → Prop} (hT : TIn S hv mv sv h0 ms ss) (htt : (h0 :: ms).flatten.length ≤ 1099511627776)
    (hd : TownOk (h0 :: ms) ss → looseP h → DrawSpec 35 B (.agg #[hv, mv, sv]) X (.agg #[.int .i64 mean, .int .i64 most]) h S Post)
    (H0 : ∀ a e, HostOf (h0 :: ms) ss frm a e → e ≠ 0 → Q (.tuple #[.agg #[.slice none 0 0, .slice none 0 0], .int .i64 e]) S)
    (H1 : ∀ a, HostOf (h0 :: ms) ss frm a 0 → (¬ ∃ x, findP (h0 :: ms) number = some x ∧ x.1 ≤ 0) → Q (.tuple #[.agg #[.slice none 0 0, .slice none 0 0], .int .i64 5]) S)
    (H2 : ∀ a b ly, HostOf (h0 :: ms) ss frm a 0 → findP (h0 :: ms) number = some (ly, b) → ly ≤ 0 → ¬ looseP h → Q (.tuple #[.agg #[.slice none 0 0, .slice none 0 0], .int .i64 70]) S)
    (H3 : ∀ a b ly a1 n1 c1 a2 n2 c2 e F G, HostOf (h0 :: ms) ss frm a 0 → findP (h0 :: ms) number = some (ly, b) → ly ≤ 0 → looseP h → Post a b (way2 a1 n1 c1 a2 n2 c2) e F G → Q (.tuple #[.agg (way2 a1 n1 c1 a2 n2 c2).toArray, .int .i64 e]) (F ++ G)) :
    CallWp Try.prog B 24 #[.agg #[hv, mv, sv], X, .int .i64 frm, .int .i64 number, .agg h.cells.toArray, .agg #[.int .i64 mean, .int .i64 most]] Q S := by
  obtain ⟨a1, c1, a2, c2, a3, c3, rfl, rfl, rfl⟩ := hT.forms
  refine subRet ?_
  refine CallWp.enter (args := [_, _, _, _, _, _]) Try.func24 rfl Try.ntmps24 rfl ?_
  refine Wp.seq (Wp.region ?_)
  refine OWp.step rfl (Step.box rfl rfl rfl ?_); intro L6 hBL6 hLL6
  refine OWp.step rfl (Step.box rfl rfl rfl ?_); intro L10 hBL10 hLL10
  refine OWp.step rfl (Step.box rfl rfl rfl ?_); intro L11 hBL11 hLL11
  refine OWp.step rfl (Step.alloc rfl rfl rfl ?_); intro L12 hBL12 hLL12
  refine OWp.evs 1 rfl ?_
  refine OWp.nil ?_
  refine Wp.seq (Wp.region ?_)
  refine OWp.load (.tail _ (.tail _ (.tail _ (.head _)))) rfl rfl rfl rfl rfl ?_
  refine OWp.evs 1 rfl ?_
  refine OWp.step rfl (Step.call rfl rfl rfl rfl rfl rfl ((rHostC (hT.mono fun _ h => .tail _ (.tail _ (.tail _ (.tail _ h)))) htt ?_)))
  intro a e ha
  refine OWp.evs 3 rfl ?_
  refine OWp.step rfl (Step.alloc rfl rfl rfl ?_); intro L14 hBL14 hLL14
  refine OWp.step rfl (Step.storeAs 0 ((ndc a)) rfl rfl rfl rfl rfl (by assumption) rfl (Unfz.zero _) rfl (Nat.le_of_ble_eq_true rfl) rfl rfl ?_)
  refine OWp.evs 1 rfl ?_
  refine OWp.nil ?_
  refine Wp.seq ?_
  refine Wp.seq (Wp.region ?_)
  refine OWp.evs 2 rfl ?_
  refine OWp.nil ?_
  refine Wp.cond rfl (fun he => ?_) (fun he => ?_)
  · have he := ndT he
    refine Wp.seq (Wp.region ?_)
    refine OWp.g rfl rfl (Gives.build rfl rfl) ?_
    refine OWp.evs 1 rfl ?_
    refine OWp.step rfl (Step.storeAs 1 ([.slice none 0 0, .slice none 0 0]) rfl rfl rfl rfl rfl (by assumption) rfl (Unfz.zero _) rfl (Nat.le_of_ble_eq_true rfl) rfl rfl ?_)
    refine OWp.evs 1 rfl ?_
    refine OWp.nil ?_
    refine Wp.ret ⟨trivial, _, ⟨_, _, _, _, rfl, rfl, ⟨_, _, _, (by repeat (first | exact List.Mem.head _ | assumption | exact List.mem_append_left _ (by assumption) | apply List.mem_cons_of_mem | apply List.mem_append_right)), (by first | assumption | rfl)⟩, ⟨_, _, rfl, rfl, rfl⟩⟩, ?_⟩
    exact ⟨_, _, .refl _, (by repeat (first | exact List.Sublist.refl _ | exact List.sublist_append_right _ _ | apply List.Sublist.cons)), H0 a e ha he⟩
  have he := ndF he
  subst he
  have hok : TownOk (h0 :: ms) ss := by rcases hostOf_no ha with ⟨_, h, _⟩ | h | h; exact h; all_goals cases h
  refine Wp.skip ?_
  refine Wp.seq (Wp.region ?_)
  refine OWp.load (.tail _ (.tail _ (.tail _ (.tail _ (.head _))))) rfl rfl rfl rfl rfl ?_
  refine OWp.evs 1 rfl ?_
  refine OWp.step rfl (Step.call rfl rfl rfl rfl rfl rfl ((rhostC (hT.mono fun _ h => .tail _ (.tail _ (.tail _ (.tail _ (.tail _ h))))) ?_)))
  intro z hz
  refine OWp.evs 1 rfl ?_
  refine OWp.nil ?_
  refine Wp.seq ?_
  refine Wp.seq (Wp.region ?_)
  refine OWp.evs 2 rfl ?_
  refine OWp.nil ?_
  refine Wp.cond rfl (fun hz0 => ?_) (fun hz0 => ?_)
  · have hz0 := of_decide_eq_true hz0
    refine Wp.seq (Wp.region ?_)
    refine OWp.g rfl rfl (Gives.build rfl rfl) ?_
    refine OWp.step rfl (Step.storeAs 1 ([.slice none 0 0, .slice none 0 0]) rfl rfl rfl rfl rfl (by assumption) rfl (Unfz.zero _) rfl (Nat.le_of_ble_eq_true rfl) rfl rfl ?_)
    refine OWp.evs 1 rfl ?_
    refine OWp.nil ?_
    refine Wp.ret ⟨trivial, _, ⟨_, _, _, _, rfl, rfl, ⟨_, _, _, (by repeat (first | exact List.Mem.head _ | assumption | exact List.mem_append_left _ (by assumption) | apply List.mem_cons_of_mem | apply List.mem_append_right)), (by first | assumption | rfl)⟩, ⟨_, _, rfl, rfl, rfl⟩⟩, ?_⟩
    exact ⟨_, _, .refl _, (by repeat (first | exact List.Sublist.refl _ | exact List.sublist_append_right _ _ | apply List.Sublist.cons)), H1 a ha (fun hx => by have := (host_iff (ms := ms) hz).1 hx; omega)⟩
  have hz0 := of_decide_eq_false hz0
  obtain ⟨i, hi, rfl, hnum, hb⟩ : ∃ i : Nat, ∃ h : i < h0.length, z = (i : Int) ∧ h0[i].1 = number ∧ ∀ y ∈ h0.take i, y.1 ≠ number := by
    rcases hz with hz | ⟨hz, _⟩
    · exact hz
    · omega
  have hf := findP_host (ms := ms) hi hnum hb
  have hr0 : Reads S 2 (.slice a1 h0.length c1) h0.length (h0.flatMap ndc) := by obtain ⟨_, _, _, h3, _⟩ := hT; exact (h3.2 0 _ _ rfl rfl).1
  obtain ⟨bb, oo, cc, lL, lt, lf, hvv, hmm, hatt⟩ := nd_at hr0 (by omega)
  cases hvv
  refine Wp.skip ?_
  refine Wp.seq ?_
  refine Wp.seq (Wp.region ?_)
  refine OWp.load (.tail _ (.tail _ (.tail _ (.head _)))) rfl rfl rfl rfl rfl ?_
  refine OWp.step rfl (Step.call rfl rfl rfl rfl rfl rfl ((rcheckC ?_)))
  by_cases hp : hopP h
  · skip
    rw [hopE_yes hp]
    refine OWp.evs 2 rfl ?_
    refine OWp.part 36 rfl (fun cc1 => absurd (ndT cc1) (by exact fun h => h rfl)) (fun cc1 => ?_)
    have cc1 := ndF cc1
    refine OWp.evs 1 rfl ?_
    refine OWp.load (.tail _ (.tail _ (.tail _ (.head _)))) rfl rfl rfl rfl rfl ?_
    refine OWp.evs 2 rfl ?_
    refine OWp.nil ?_
    refine Wp.cond rfl (fun h1 => ?_) (fun h1 => ?_)
    · have h1 := of_decide_eq_true h1
      refine Wp.seq (Wp.region ?_)
      refine OWp.g rfl rfl (Gives.build rfl rfl) ?_
      refine OWp.step rfl (Step.storeAs 1 ([.slice none 0 0, .slice none 0 0]) rfl rfl rfl rfl rfl (by assumption) rfl (Unfz.zero _) rfl (Nat.le_of_ble_eq_true rfl) rfl rfl ?_)
      refine OWp.evs 1 rfl ?_
      refine OWp.nil ?_
      refine Wp.ret ⟨trivial, _, ⟨_, _, _, _, rfl, rfl, ⟨_, _, _, (by repeat (first | exact List.Mem.head _ | assumption | exact List.mem_append_left _ (by assumption) | apply List.mem_cons_of_mem | apply List.mem_append_right)), (by first | assumption | rfl)⟩, ⟨_, _, rfl, rfl, rfl⟩⟩, ?_⟩
      exact ⟨_, _, .refl _, (by repeat (first | exact List.Sublist.refl _ | exact List.sublist_append_right _ _ | apply List.Sublist.cons)), H2 a h0[i] 0 ha hf (by omega) (fun h => h.2 h1)⟩
    have h1 := of_decide_eq_false h1
    refine Wp.skip ?_
    refine Wp.seq (Wp.regionDraw [0, 1, 2, 3, 4, 5, 6, 7, 8, 9, 10, 11, 12, 13, 14] [10, 13] rfl (by decide +kernel) ?_)
    refine DWp.load (.tail _ (.tail _ (.tail _ (.tail _ (.head _))))) rfl rfl rfl rfl rfl rfl rfl ?_
    refine DWp.evs 1 rfl ?_
    refine DWp.load (.head _) rfl rfl rfl rfl rfl rfl rfl ?_
    refine DWp.evs 1 rfl ?_
    refine DWp.load (.tail _ (.tail _ (.tail _ (.tail _ (.head _))))) rfl rfl rfl rfl rfl rfl rfl ?_
    refine DWp.evs 1 rfl ?_
    refine DWp.g rfl rfl rfl rfl (Gives.indexAddrSlice (i) rfl rfl rfl rfl rfl rfl hi) ?_
    refine DWp.load (.tail _ (.tail _ (.tail _ (.tail _ (.tail _ hmm))))) rfl rfl rfl rfl rfl rfl (hatt i hi) ?_
    refine DWp.load (.tail _ (.tail _ (.tail _ (.head _)))) rfl rfl rfl rfl rfl rfl rfl ?_
    refine DWp.load (.tail _ (.tail _ (.head _))) rfl rfl rfl rfl rfl rfl rfl ?_
    refine DWp.step rfl rfl rfl (Step.call rfl rfl rfl rfl rfl rfl (hd hok ⟨hp, h1⟩ a h0[i] [(L14, cel (ndc a) 31), (L12, cel [.slice none 0 0, .slice none 0 0] 56), (L11, cel [.int .i64 mean, .int .i64 most] 45), (L10, cel h.cells 43), (L6, cel [.slice (some ⟨bb, oo, none⟩) h0.length c1, .slice a2 ms.length c2, .slice a3 ss.length c3] 26)] _ ?_))
    intro p1 n1 d1 p2 n2 d2 e F G hPost
    refine ⟨by (repeat (first | exact pr_nil | refine pr_kept ?_ | refine pr_free ?_ | refine pr_cons (by repeat (first | exact List.Mem.head _ | assumption | exact List.mem_append_left _ (by assumption) | apply List.mem_cons_of_mem | apply List.mem_append_right)) ?_)), ?_⟩
    refine DWp.evs 2 rfl ?_
    refine DWp.step rfl rfl rfl (Step.permS (List.perm_append_comm_assoc F _ G) (Step.storeAs 1 (way2 p1 n1 d1 p2 n2 d2) rfl rfl rfl rfl rfl hBL12 rfl (Unfz.zero _) rfl (Nat.le_of_ble_eq_true rfl) rfl rfl ?_))
    refine ⟨by (repeat (first | exact pr_nil | refine pr_kept ?_ | refine pr_free ?_ | refine pr_cons (by repeat (first | exact List.Mem.head _ | assumption | exact List.mem_append_left _ (by assumption) | apply List.mem_cons_of_mem | apply List.mem_append_right)) ?_)), ?_⟩
    refine DWp.evs 1 rfl ?_
    refine DWp.nil ?_
    refine Wp.ret ⟨trivial, _, ⟨_, _, _, _, rfl, rfl, ⟨_, _, _, (by repeat (first | exact List.Mem.head _ | assumption | exact List.mem_append_left _ (by assumption) | apply List.mem_cons_of_mem | apply List.mem_append_right)), (by first | assumption | rfl)⟩, ⟨_, _, rfl, rfl, rfl⟩⟩, ?_⟩
    exact ⟨_, _, .refl _, (by repeat (first | exact List.Sublist.refl _ | exact List.sublist_append_right _ _ | apply List.Sublist.cons)), H3 a h0[i] 0 p1 n1 d1 p2 n2 d2 e F G ha hf (by omega) ⟨hp, h1⟩ hPost⟩
  rw [hopE_no hp]
  refine OWp.evs 2 rfl ?_
  refine OWp.part 36 rfl (fun cc2 => ?_) (fun cc2 => absurd (ndF cc2) (by exact fun h => nomatch h))
  have cc2 := ndT cc2
  refine OWp.evs 4 rfl ?_
  refine OWp.nil ?_
  refine Wp.cond rfl (fun _ => ?_) (fun c => nomatch c)
  refine Wp.seq (Wp.region ?_)
  refine OWp.g rfl rfl (Gives.build rfl rfl) ?_
  refine OWp.step rfl (Step.storeAs 1 ([.slice none 0 0, .slice none 0 0]) rfl rfl rfl rfl rfl (by assumption) rfl (Unfz.zero _) rfl (Nat.le_of_ble_eq_true rfl) rfl rfl ?_)
  refine OWp.evs 1 rfl ?_
  refine OWp.nil ?_
  refine Wp.ret ⟨trivial, _, ⟨_, _, _, _, rfl, rfl, ⟨_, _, _, (by repeat (first | exact List.Mem.head _ | assumption | exact List.mem_append_left _ (by assumption) | apply List.mem_cons_of_mem | apply List.mem_append_right)), (by first | assumption | rfl)⟩, ⟨_, _, rfl, rfl, rfl⟩⟩, ?_⟩
  exact ⟨_, _, .refl _, (by repeat (first | exact List.Sublist.refl _ | exact List.sublist_append_right _ _ | apply List.Sublist.cons)), H2 a h0[i] 0 ha hf (by omega) (fun h => hp h.1)⟩
end
end Go.Proofs.C

namespace Go.Proofs.C
open Go.Lg
set_option maxRecDepth 100000

def RWayPost (B : Nat) (s : List UInt8) (k p : Nat) (ms : List (List Nd)) (h : Hop) (mean most : Int) (R : Ents) (a b : Nd) (way : List Value) (e : Int) (F G : Ents) : Prop :=
  e = (wayR s k a b ms h mean most).2.2.1 ∧ ∃ pv qv es1 es2, way = [pv, qv] ∧ F = rtp p s (wayR s k a b ms h mean most).2.2.2 :: (es1 ++ es2) ∧ G = R ∧ WayIn B (wayR s k a b ms h mean most) pv qv es1 es2

section
variable {B : Nat} {S R : Ents} {Q : Value → Ents → Prop} {p k : Nat} {s : List UInt8} {hv mv sv : Value} {h0 : List Nd} {ms : List (List Nd)} {ss : List St} {a b : Nd} {h : Hop} {mean most : Int}
theorem rtapeSpec (hB : B ≤ p) (hs : s.length ≤ lim) (hk : k ≤ s.length) (hT : TIn R hv mv sv h0 ms ss) (hok : TownOk (h0 :: ms) ss) (htt : (h0 :: ms).flatten.length ≤ 1099511627776) :
    DrawSpec 35 B (.agg #[hv, mv, sv]) (pt p) (.agg #[.int .i64 mean, .int .i64 most]) h (rtp p s k :: R) (RWayPost B s k p ms h mean most R) := by
  intro a b L Q H
  refine CallWp.permS List.perm_middle ?_
  refine rwayWC hB hs hk (hT.mono fun x hx => List.mem_append_right _ hx) hok htt ?_
  intro pv qv es1 es2 h1 h2
  obtain ⟨pa, pc, hp⟩ := h1.reads.form
  obtain ⟨qa, qc, hq⟩ := h2.reads.form
  have := H pa _ pc qa _ qc _ _ R ⟨rfl, pv, qv, es1, es2, by rw [hp, hq], rfl, rfl, h1, h2⟩
  rw [List.cons_append, List.append_assoc] at this
  rw [hp, hq]
  exact this
theorem rhomeC {frm to : Int} {id : List UInt8} (hB : B ≤ p) (hs : s.length ≤ lim) (hk : k ≤ s.length) (hT : TIn R hv mv sv h0 ms ss) (htt : (h0 :: ms).flatten.length ≤ 1099511627776)
    (H : ∀ w pv qv es1 es2, HomeOf h0 ms ss s k frm to id mean most w → WayIn B w pv qv es1 es2 → Q (.tuple #[.agg #[pv, qv], .int .i64 w.2.2.1]) (rtp p s w.2.2.2 :: (es1 ++ (es2 ++ R)))) :
    CallWp Try.prog B 20 #[.agg #[hv, mv, sv], pt p, .int .i64 frm, .int .i64 to, .string (str id), .agg #[.int .i64 mean, .int .i64 most]] Q (rtp p s k :: R) := by
  refine rhomeG (hT.mono fun _ h => .tail _ h) htt (fun hok hp => rtapeSpec hB hs hk hT hok htt) ?_ ?_ ?_ ?_
  · intro a e ha he
    exact H _ _ _ _ _ (.inl ⟨a, e, ha, he, rfl⟩) (WayIn.none _ _ _)
  · intro a b e ha hb he
    exact H _ _ _ _ _ (.inr (.inl ⟨a, b, e, ha, hb, he, rfl⟩)) (WayIn.none _ _ _)
  · intro a b ha hb hp
    exact H _ _ _ _ _ (.inr (.inr (.inl ⟨a, b, ha, hb, hp, rfl⟩))) (WayIn.none _ _ _)
  · rintro a b a1 n1 c1 a2 n2 c2 e F G ha hb hp ⟨rfl, pv, qv, es1, es2, hw, rfl, rfl, hin⟩
    have := H _ _ _ _ _ (.inr (.inr (.inr ⟨a, b, ha, hb, hp, rfl⟩))) hin
    rw [hw, List.cons_append, List.append_assoc]
    exact this
theorem rlooseC {frm number : Int} (hB : B ≤ p) (hs : s.length ≤ lim) (hk : k ≤ s.length) (hT : TIn R hv mv sv h0 ms ss) (htt : (h0 :: ms).flatten.length ≤ 1099511627776)
    (H : ∀ w pv qv es1 es2, LooseOf h0 ms ss s k frm number h mean most w → WayIn B w pv qv es1 es2 → Q (.tuple #[.agg #[pv, qv], .int .i64 w.2.2.1]) (rtp p s w.2.2.2 :: (es1 ++ (es2 ++ R)))) :
    CallWp Try.prog B 24 #[.agg #[hv, mv, sv], pt p, .int .i64 frm, .int .i64 number, .agg h.cells.toArray, .agg #[.int .i64 mean, .int .i64 most]] Q (rtp p s k :: R) := by
  refine rlooseG (hT.mono fun _ h => .tail _ h) htt (fun hok hp => rtapeSpec hB hs hk hT hok htt) ?_ ?_ ?_ ?_
  · intro a e ha he
    exact H _ _ _ _ _ (.inl ⟨a, e, ha, he, rfl⟩) (WayIn.none _ _ _)
  · intro a ha hx
    exact H _ _ _ _ _ (.inr (.inl ⟨a, ha, hx, rfl⟩)) (WayIn.none _ _ _)
  · intro a b ly ha hb hl hp
    exact H _ _ _ _ _ (.inr (.inr (.inl ⟨a, b, ly, ha, hb, hl, hp, rfl⟩))) (WayIn.none _ _ _)
  · rintro a b ly a1 n1 c1 a2 n2 c2 e F G ha hb hl hp ⟨rfl, pv, qv, es1, es2, hw, rfl, rfl, hin⟩
    have := H _ _ _ _ _ (.inr (.inr (.inr ⟨a, b, ly, ha, hb, hl, hp, rfl⟩))) hin
    rw [hw, List.cons_append, List.append_assoc]
    exact this
end
end Go.Proofs.C

namespace Go.Proofs.C
open Go.Lg
set_option maxRecDepth 100000

theorem nodesB {S : Ents} {v : Value} {m : Nat} (h : RdB Try.prog S 22 [v] m) : ∃ l : List Nd, Reads S 2 v l.length (l.flatMap ndc) ∧ l.length ≤ lim ∧ l.length + 1 ≤ m := by
  obtain ⟨l, hr, hl⟩ := rdNodes h.toRd
  obtain ⟨v', rs, hv, hr2, hle⟩ := h.len Try.underlying22
  cases hv
  obtain ⟨a, c, e⟩ := hr.form
  obtain ⟨a', c', e'⟩ := hr2.form
  rw [e] at e'
  have e2 : l.length = rs.length := by injection e'
  exact ⟨l, hr, hl, by omega⟩
theorem seatsB {S : Ents} {v : Value} {m : Nat} (h : RdB Try.prog S 24 [v] m) : ∃ l : List St, Reads S 2 v l.length (l.flatMap stc) ∧ l.length ≤ lim ∧ l.length + 1 ≤ m := by
  obtain ⟨l, hr, hl⟩ := rdSeats h.toRd
  obtain ⟨v', rs, hv, hr2, hle⟩ := h.len Try.underlying24
  cases hv
  obtain ⟨a, c, e⟩ := hr.form
  obtain ⟨a', c', e'⟩ := hr2.form
  rw [e] at e'
  have e2 : l.length = rs.length := by injection e'
  exact ⟨l, hr, hl, by omega⟩
theorem mixRows {S : Ents} : ∀ (rs : List (List Value)) (ns : List Nat), ns.length = rs.length → (∀ (i : Nat) (r : List Value) (n : Nat), rs[i]? = some r → ns[i]? = some n → RdB Try.prog S 22 r n) →
    ∃ (vs : List Value) (ms : List (List Nd)), rs.flatten = vs ∧ vs.length = rs.length ∧ vs.all (·.oneCell') = true ∧ NodesIn S vs ms ∧ ms.flatten.length + ms.length ≤ ns.sum
  | [], _, _, _ => ⟨[], [], rfl, rfl, rfl, ⟨rfl, fun i v l h _ => by simp at h⟩, by simp⟩
  | r :: rs, [], h, _ => by simp at h
  | r :: rs, n :: ns, hl, h => by
    obtain ⟨vs, ms, h1, h2, h3, h4, h5⟩ := mixRows rs ns (by simpa using hl) fun i r' n' hr hn => h (i + 1) r' n' (by simpa using hr) (by simpa using hn)
    have h0 := h 0 r n rfl rfl
    obtain ⟨v, _, rfl, _⟩ := h0.toRd.open_slice Try.underlying22
    obtain ⟨l, hr, hll, hlm⟩ := nodesB h0
    obtain ⟨a, c, hv⟩ := hr.form
    refine ⟨v :: vs, l :: ms, by simp [h1], by simp [h2], by rw [List.all_cons, h3, hv]; rfl, ⟨by simp [h4.1], fun i w k hw hk => ?_⟩, by simp only [List.flatten_cons, List.length_append, List.length_cons, List.sum_cons]; omega⟩
    cases i with
    | zero => simp at hw hk; subst hw hk; exact ⟨hr, hll⟩
    | succ i => exact h4.2 i w k (by simpa using hw) (by simpa using hk)
theorem rdTownB {S : Ents} {cs : List Value} {m : Nat} (h : RdB Try.prog S 26 cs m) (hm : m ≤ 1048576) : ∃ hv mv sv h0 ms ss, cs = [hv, mv, sv] ∧ TIn S hv mv sv h0 ms ss ∧ (h0 :: ms).flatten.length ≤ 1099511627776 ∧ ms.length ≤ 1099511627776 ∧ ss.length ≤ 1099511627776 := by
  obtain ⟨hl, hf⟩ := h.open_struct Try.underlying26
  have hl2 : cs.length = 3 := hl
  match cs, hl2 with
  | [x, y, z], _ =>
    have h1 : RdB Try.prog S 22 [x] m := hf _ (by simp; exact .inl rfl)
    have h2 : RdB Try.prog S 23 [y] m := hf _ (by simp; exact .inr (.inl rfl))
    have h3 : RdB Try.prog S 24 [z] m := hf _ (by simp; exact .inr (.inr rfl))
    obtain ⟨l, hl, hll, hlm⟩ := nodesB h1
    obtain ⟨ss, hs, hsl, hsm⟩ := seatsB h3
    obtain ⟨v, rs, ns, hv, hr, hw, hlen, hrow, hsum⟩ := h2.open_slice Try.underlying23
    cases hv
    obtain ⟨vs, ms, e1, e2, e3, hn, e5⟩ := mixRows rs ns hlen hrow
    have hr' : Reads S 1 y vs.length vs := by
      rw [e1, ← e2] at hr
      exact hr
    have hvl : vs.length ≤ lim := by
      have : rs.length * 24 ≤ reachBytes := hw
      unfold reachBytes at this; unfold lim; omega
    refine ⟨x, y, z, l, ms, ss, rfl, ⟨vs, hr', e3, ⟨by simp [hn.1], fun i v l' h5 h6 => ?_⟩, hvl, hs, hsl⟩, ?_, ?_, ?_⟩
    · cases i with
      | zero => simp at h5 h6; subst h5 h6; exact ⟨hl, hll⟩
      | succ i => exact hn.2 i v l' (by simpa using h5) (by simpa using h6)
    · simp only [List.flatten_cons, List.length_append]; omega
    · omega
    · omega
end Go.Proofs.C

namespace Go.Proofs.C
open Go.Lg
set_option maxRecDepth 100000

theorem check_one {ls : List (List Nd)} {ss : List St} {e e' : Int} (h : e = 0 ∧ TownOk ls ss ∨ e = 250 ∧ ¬ TownOk ls ss) (h' : e' = 0 ∧ TownOk ls ss ∨ e' = 250 ∧ ¬ TownOk ls ss) : e = e' := by
  rcases h with ⟨h1, h2⟩ | ⟨h1, h2⟩ <;> rcases h' with ⟨h3, h4⟩ | ⟨h3, h4⟩
  · rw [h1, h3]
  · exact absurd h2 h4
  · exact absurd h4 h2
  · rw [h1, h3]
theorem ndSelf (x : Nd) : eqIn Try.prog 10 31 (.agg (ndc x).toArray) (.agg (ndc x).toArray) = some true := by rw [eqNd_in, eqNd_self]
section
variable {B : Nat} {S R : Ents} {hv mv sv : Value} {h0 : List Nd} {ms : List (List Nd)} {ss : List St}
set_option maxHeartbeats 4000000 in
theorem topoFindsL {frm to number : Int} (hT : TIn S hv mv sv h0 ms ss) (ht : (h0 :: ms).flatten.length ≤ 1099511627776) (hms : ms.length ≤ 1099511627776) (hss : ss.length ≤ 1099511627776) :
    CallWp Try.prog B 3 #[.agg #[hv, mv, sv], .agg #[.int .i64 frm, .int .i64 to, .int .i64 number]] (fun v _ => v = .bool true) S := by
  obtain ⟨a1, c1, a2, c2, a3, c3, rfl, rfl, rfl⟩ := hT.forms
  refine CallWp.enter (args := [_, _]) Try.func3 rfl Try.ntmps3 rfl ?_
  refine Wp.seq (Wp.region ?_)
  refine OWp.step rfl (Step.box rfl rfl rfl ?_); intro L2 hBL2 hLL2
  refine OWp.step rfl (Step.box rfl rfl rfl ?_); intro L3 hBL3 hLL3
  refine OWp.evs 1 rfl ?_
  refine OWp.nil ?_
  refine Wp.seq (Wp.region ?_)
  refine OWp.load (.tail _ (.head _)) rfl rfl rfl rfl rfl ?_
  refine OWp.step rfl (Step.call rfl rfl rfl rfl rfl rfl ((copiedC (hT.mono fun _ h => .tail _ (.tail _ h)) ht hms hss ?_)))
  intro hv' mv' sv' M hsub hTo
  have h2 := hsub _ (.tail _ (.head _))
  have h3 := hsub _ (.head _)
  replace hT := hT.mono fun x hx => hsub _ (.tail _ (.tail _ hx))
  obtain ⟨b1, d1, b2, d2, b3, d3, rfl, rfl, rfl⟩ := hTo.forms
  refine OWp.step rfl (Step.alloc rfl rfl rfl ?_); intro L5 hBL5 hLL5
  refine OWp.step rfl (Step.storeAs 0 ([.slice b1 h0.length d1, .slice b2 ms.length d2, .slice b3 ss.length d3]) rfl rfl rfl rfl rfl (by assumption) rfl (Unfz.zero _) rfl (Nat.le_of_ble_eq_true rfl) rfl rfl ?_)
  refine OWp.nil ?_
  replace hT := hT.mono (S' := (L5, cel [.slice b1 h0.length d1, .slice b2 ms.length d2, .slice b3 ss.length d3] 26) :: M) fun x hx => .tail _ hx
  replace hTo := hTo.mono (S' := (L5, cel [.slice b1 h0.length d1, .slice b2 ms.length d2, .slice b3 ss.length d3] 26) :: M) fun x hx => .tail _ hx
  refine Wp.seq (Wp.region ?_)
  refine OWp.load (.head _) rfl rfl rfl rfl rfl ?_
  refine OWp.evs 1 rfl ?_
  refine OWp.load (.tail _ h3) rfl rfl rfl rfl rfl ?_
  refine OWp.step rfl (Step.call rfl rfl rfl rfl rfl rfl ((hostC hTo ?_)))
  intro n1 e1 hn1
  refine OWp.evs 3 rfl ?_
  refine OWp.step rfl (Step.alloc rfl rfl rfl ?_); intro L6 hBL6 hLL6
  refine OWp.step rfl (Step.storeAs 0 ((ndc n1)) rfl rfl rfl rfl rfl (by assumption) rfl (Unfz.zero _) rfl (Nat.le_of_ble_eq_true rfl) rfl rfl ?_)
  refine OWp.evs 1 rfl ?_
  refine OWp.nil ?_
  refine Wp.seq (Wp.region ?_)
  refine OWp.load (.tail _ (.tail _ h2)) rfl rfl rfl rfl rfl ?_
  refine OWp.evs 1 rfl ?_
  refine OWp.load (.tail _ (.tail _ h3)) rfl rfl rfl rfl rfl ?_
  refine OWp.step rfl (Step.call rfl rfl rfl rfl rfl rfl ((rHostC (hT.mono fun _ h => .tail _ h) ht ?_)))
  intro n2 e2 hn2
  obtain ⟨rfl, rfl⟩ := hostOf_one hn1 hn2
  refine OWp.evs 3 rfl ?_
  refine OWp.step rfl (Step.alloc rfl rfl rfl ?_); intro L8 hBL8 hLL8
  refine OWp.step rfl (Step.storeAs 0 ((ndc n1)) rfl rfl rfl rfl rfl (by assumption) rfl (Unfz.zero _) rfl (Nat.le_of_ble_eq_true rfl) rfl rfl ?_)
  refine OWp.evs 1 rfl ?_
  refine OWp.nil ?_
  refine Wp.seq (Wp.region ?_)
  refine OWp.load (.tail _ (.tail _ (.head _))) rfl rfl rfl rfl rfl ?_
  refine OWp.evs 1 rfl ?_
  refine OWp.load (.tail _ (.tail _ (.tail _ h3))) rfl rfl rfl rfl rfl ?_
  refine OWp.step rfl (Step.call rfl rfl rfl rfl rfl rfl ((nodeC (hTo.mono fun _ h => .tail _ (.tail _ h)) ?_)))
  intro n3 ly3 e3 hn3
  refine OWp.evs 4 rfl ?_
  refine OWp.step rfl (Step.alloc rfl rfl rfl ?_); intro L10 hBL10 hLL10
  refine OWp.step rfl (Step.storeAs 0 ((ndc n3)) rfl rfl rfl rfl rfl (by assumption) rfl (Unfz.zero _) rfl (Nat.le_of_ble_eq_true rfl) rfl rfl ?_)
  refine OWp.evs 2 rfl ?_
  refine OWp.nil ?_
  refine Wp.seq (Wp.region ?_)
  refine OWp.load (.tail _ (.tail _ (.tail _ (.tail _ h2)))) rfl rfl rfl rfl rfl ?_
  refine OWp.evs 1 rfl ?_
  refine OWp.load (.tail _ (.tail _ (.tail _ (.tail _ h3)))) rfl rfl rfl rfl rfl ?_
  refine OWp.step rfl (Step.call rfl rfl rfl rfl rfl rfl ((rNodeC (hT.mono fun _ h => .tail _ (.tail _ (.tail _ h))) ht ?_)))
  intro n4 ly4 e4 hn4
  obtain ⟨rfl, rfl, rfl⟩ := nodeOf_one hn3 hn4
  refine OWp.evs 4 rfl ?_
  refine OWp.step rfl (Step.alloc rfl rfl rfl ?_); intro L13 hBL13 hLL13
  refine OWp.step rfl (Step.storeAs 0 ((ndc n3)) rfl rfl rfl rfl rfl (by assumption) rfl (Unfz.zero _) rfl (Nat.le_of_ble_eq_true rfl) rfl rfl ?_)
  refine OWp.evs 2 rfl ?_
  refine OWp.nil ?_
  refine Wp.seq (Wp.regionDraw [0, 1, 3, 2, 4, 5, 6, 7, 8, 9, 10, 11, 12, 13, 14, 15, 16, 17, 18, 19, 20, 21, 22, 23, 24, 25, 26, 27, 28, 29, 30, 31, 32, 33, 35, 34, 36, 37, 38, 39, 40, 41, 42, 43, 44, 45, 46, 47] [2, 4, 34, 36, 42, 45] rfl (by decide +kernel) ?_)
  refine DWp.evs 1 rfl ?_
  refine DWp.load (.tail _ (.tail _ (.tail _ (.tail _ (.head _))))) rfl rfl rfl rfl rfl rfl rfl ?_
  refine DWp.load (.tail _ (.tail _ (.tail _ (.tail _ (.tail _ h2))))) rfl rfl rfl rfl rfl rfl rfl ?_
  refine DWp.step rfl rfl rfl (Step.call rfl rfl rfl rfl rfl rfl ((town2C (hTo.mono fun _ h => .tail _ (.tail _ (.tail _ (.tail _ h)))) ?_)))
  intro e5 he5
  refine ⟨by (repeat (first | refine pr_kept ?_ | refine pr_free ?_ | refine pr_cons (by repeat (first | exact List.Mem.head _ | assumption | exact List.mem_append_left _ (by assumption) | apply List.mem_cons_of_mem | apply List.mem_append_right)) ?_ | exact pr_nil)), ?_⟩
  refine DWp.step rfl rfl rfl (Step.call rfl rfl rfl rfl rfl rfl ((rtownC (hT.mono fun _ h => .tail _ (.tail _ (.tail _ (.tail _ h)))) ht ?_)))
  intro e6 he6
  obtain rfl := check_one he5 he6
  refine ⟨by (repeat (first | refine pr_kept ?_ | refine pr_free ?_ | refine pr_cons (by repeat (first | exact List.Mem.head _ | assumption | exact List.mem_append_left _ (by assumption) | apply List.mem_cons_of_mem | apply List.mem_append_right)) ?_ | exact pr_nil)), ?_⟩
  refine DWp.evs 3 rfl ?_
  refine DWp.part 55 rfl (fun cc1 => ?_) (fun cc1 => absurd (of_decide_eq_false cc1) (by exact fun h => h rfl))
  have cc1 := of_decide_eq_true cc1
  refine DWp.load (.tail _ (.tail _ (.tail _ (.head _)))) rfl rfl rfl rfl rfl rfl rfl ?_
  refine DWp.load (.tail _ (.tail _ (.head _))) rfl rfl rfl rfl rfl rfl rfl ?_
  refine DWp.g rfl rfl rfl rfl (Gives.eqStruct (r := true) 10 rfl rfl rfl rfl ndG (ndSelf _)) ?_
  refine DWp.evs 2 rfl ?_
  refine DWp.evs 5 rfl ?_
  refine DWp.part 65 rfl (fun cc2 => ?_) (fun cc2 => absurd (of_decide_eq_false cc2) (by exact fun h => h rfl))
  have cc2 := of_decide_eq_true cc2
  refine DWp.load (.tail _ (.head _)) rfl rfl rfl rfl rfl rfl rfl ?_
  refine DWp.load (.head _) rfl rfl rfl rfl rfl rfl rfl ?_
  refine DWp.g rfl rfl rfl rfl (Gives.eqStruct (r := true) 10 rfl rfl rfl rfl ndG (ndSelf _)) ?_
  refine DWp.evs 2 rfl ?_
  refine DWp.evs 5 rfl ?_
  refine DWp.part 75 rfl (fun cc3 => ?_) (fun cc3 => absurd (of_decide_eq_false cc3) (by exact fun h => h rfl))
  have cc3 := of_decide_eq_true cc3
  refine DWp.evs 5 rfl ?_
  refine DWp.part 80 rfl (fun cc4 => ?_) (fun cc4 => absurd (of_decide_eq_false cc4) (by exact fun h => h rfl))
  have cc4 := of_decide_eq_true cc4
  refine DWp.load (.tail _ (.tail _ (.tail _ (.tail _ (.head _))))) rfl rfl rfl rfl rfl rfl rfl ?_
  refine DWp.load (.tail _ (.tail _ (.tail _ (.tail _ (.tail _ h2))))) rfl rfl rfl rfl rfl rfl rfl ?_
  refine DWp.step rfl rfl rfl (Step.call rfl rfl rfl rfl rfl rfl ((wordsC (hTo.mono fun _ h => .tail _ (.tail _ (.tail _ (.tail _ h)))) ?_)))
  intro n5 hn5
  refine ⟨by (repeat (first | refine pr_kept ?_ | refine pr_free ?_ | refine pr_cons (by repeat (first | exact List.Mem.head _ | assumption | exact List.mem_append_left _ (by assumption) | apply List.mem_cons_of_mem | apply List.mem_append_right)) ?_ | exact pr_nil)), ?_⟩
  refine DWp.step rfl rfl rfl (Step.call rfl rfl rfl rfl rfl rfl ((rwordsC (hT.mono fun _ h => .tail _ (.tail _ (.tail _ (.tail _ h)))) ht ?_)))
  intro n6 hn6
  obtain rfl := words_one hn5 hn6
  refine ⟨by (repeat (first | refine pr_kept ?_ | refine pr_free ?_ | refine pr_cons (by repeat (first | exact List.Mem.head _ | assumption | exact List.mem_append_left _ (by assumption) | apply List.mem_cons_of_mem | apply List.mem_append_right)) ?_ | exact pr_nil)), ?_⟩
  refine DWp.evs 3 rfl ?_
  refine DWp.part 87 rfl (fun cc5 => ?_) (fun cc5 => absurd (of_decide_eq_false cc5) (by exact fun h => h rfl))
  have cc5 := of_decide_eq_true cc5
  refine DWp.load (.tail _ (.tail _ (.tail _ (.tail _ (.head _))))) rfl rfl rfl rfl rfl rfl rfl ?_
  refine DWp.load (.tail _ (.tail _ (.tail _ (.tail _ (.tail _ h2))))) rfl rfl rfl rfl rfl rfl rfl ?_
  refine DWp.stepGrow rfl rfl rfl (Step.call rfl rfl rfl rfl rfl rfl ((sameC (hTo.mono fun _ h => .tail _ (.tail _ (.tail _ (.tail _ h)))) (hT.mono fun _ h => .tail _ (.tail _ (.tail _ (.tail _ h)))) ?_)))
  refine ⟨fun _ hy => hy, ?_⟩
  refine DWp.evs 2 rfl ?_
  refine DWp.step rfl rfl rfl (Step.call rfl rfl rfl rfl rfl rfl ((worksC ?_)))
  intro S9 hS9
  refine ⟨by (repeat (first | refine pr_kept ?_ | refine pr_free ?_ | refine pr_cons (hS9 _ (by repeat (first | exact List.Mem.head _ | assumption | exact List.mem_append_left _ (by assumption) | apply List.mem_cons_of_mem | apply List.mem_append_right))) ?_ | exact pr_nil)), ?_⟩
  refine DWp.evs 2 rfl ?_
  refine DWp.nil ?_
  refine Wp.ret ⟨trivial, _, ⟨_, _, rfl, rfl, rfl⟩, ?_⟩
  rfl
end
theorem topoFindsW {a0 a1 : Array Value} {S : Ents} {B : Nat} (h0 : RdB Try.prog S 26 a0.toList 1048576) (h1 : RdB Try.prog S 28 a1.toList 1048576) :
    CallWp Try.prog B 3 #[.agg a0, .agg a1] (fun v _ => v = .bool true) S := by
  obtain ⟨hv, mv, sv, h0, ms, ss, e0, hT, ht, hms, hss⟩ := rdTownB h0 (Nat.le_refl _)
  obtain ⟨a, b, c, e1⟩ := rdAsk h1.toRd
  have e0' : a0 = #[hv, mv, sv] := by rw [← Array.toArray_toList (xs := a0), e0]
  have e1' : a1 = #[.int .i64 a, .int .i64 b, .int .i64 c] := by rw [← Array.toArray_toList (xs := a1), e1]
  subst e0' e1'
  exact topoFindsL hT ht hms hss
end Go.Proofs.C
