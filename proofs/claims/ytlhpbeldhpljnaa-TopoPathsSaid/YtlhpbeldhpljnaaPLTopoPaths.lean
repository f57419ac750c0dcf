/- What functions of the given program do, one after the other, told by that layer. -/
import Derived.Test.YtlhpbeldhpljnaaPM6xff8e
namespace Go.Proofs.C
open Go.Lg
set_option maxRecDepth 100000

theorem home_not {h0 : List Nd} {ms : List (List Nd)} {ss : List St} {s : List UInt8} {frm to : Int} {id : List UInt8} {mean most : Int} {w : WayT} (h : HomeOf h0 ms ss s 0 frm to id mean most w) (he : w.2.2.1 ≠ 0) : w = ([], [], w.2.2.1, 0) := by
  rcases h with ⟨a, e, _, h1, rfl⟩ | ⟨a, b, e, _, _, h1, rfl⟩ | ⟨a, b, _, _, _, rfl⟩ | ⟨a, b, ha, hb, hp, rfl⟩
  · rfl
  · rfl
  · rfl
  · unfold wayR at he ⊢
    split
    · rfl
    · rename_i h1
      rw [if_neg h1] at he
      split
      · rfl
      · rename_i h2
        rw [if_neg h2] at he
        exact absurd rfl he
theorem findP_mem {ls : List (List Nd)} {ly : Int} {x : Nd} (hok : NodesOk ls) (h : (ly, x) ∈ lay ls 0) : findP ls x.1 = some (ly, x) := by
  obtain ⟨p, t, e⟩ := List.append_of_mem h
  refine findP_some (p := p) (x := (ly, x)) ⟨t, by rw [e]; simp⟩ ?_ rfl
  intro y hy hn
  have hd := hok.2
  unfold nums at hd
  rw [e, List.map_append, List.map_cons, List.nodup_append] at hd
  exact hd.2.2 y.2.1 (List.mem_map.2 ⟨y, hy, rfl⟩) x.1 (by simp) hn
theorem lay_mem {ls : List (List Nd)} {i : Nat} (hi : i < ls.length) {x : Nd} (hx : x ∈ ls[i]) : ((i : Int), x) ∈ lay ls 0 := by
  unfold lay
  refine List.mem_flatMap.2 ⟨(ls[i], i), ?_, List.mem_map.2 ⟨x, hx, rfl⟩⟩
  rw [List.mem_zipIdx_iff_getElem?]
  simp
theorem lay_ok {ls : List (List Nd)} (hok : NodesOk ls) {p : Int × Nd} (h : p ∈ lay ls 0) : NdOk p.2 := hok.1 p h
/-- The nodes of a way, from place 1 on: where they are in the town. -/
theorem wayN_lay {s : List UInt8} {h0 : List Nd} {ms : List (List Nd)} {ss : List St} {a b : Nd} {to : Int} (hok : TownOk (h0 :: ms) ss) (hb : HostOf (h0 :: ms) ss to b 0) {i : Nat} (hi : i < ms.length + 1) :
    ∃ h : i + 1 < (wayN s 0 a b ms).length, (((if i = ms.length then 0 else i + 1 : Nat) : Int), (wayN s 0 a b ms)[i + 1]) ∈ lay (h0 :: ms) 0 := by
  refine ⟨by rw [wayN_len]; omega, ?_⟩
  unfold wayN
  simp only [List.getElem_cons_succ]
  by_cases h : i = ms.length
  · rw [if_pos h]
    rw [List.getElem_append_right (by rw [picks_len]; omega)]
    simp only [List.getElem_singleton]
    rcases hostOf_no hb with ⟨_, _, sl, ly, _, hf, hly⟩ | h | h
    · have hm := List.mem_of_find?_eq_some hf
      have := lay_high hm
      have e : ly = 0 := by simp at this; omega
      subst e
      exact hm
    · cases h
    · cases h
  · rw [if_neg h]
    have hi' : i < ms.length := by omega
    rw [List.getElem_append_left (by rw [picks_len]; omega)]
    have hy := (layer_small hok (List.getElem_mem hi')).1
    have hw := pick_lt (s := s) (k := 0 + 4 * i) (n := ms[i].length) (by omega)
    have e : (picks s 0 ms ms.length)[i]'(by rw [picks_len]; omega) = ms[i][word s (0 + 4 * i) * ms[i].length / 4294967296] := by
      unfold picks
      rw [List.getElem_map, List.getElem_range]
      unfold pick
      rw [show ms.getD i [] = ms[i] by simp [hi']]
      rw [List.getD_eq_getElem?_getD, List.getElem?_eq_getElem hw]
      rfl
    rw [e]
    exact lay_mem (ls := h0 :: ms) (i := i + 1) (by simp; omega) (List.getElem_mem _)
theorem way_path {s : List UInt8} {h0 : List Nd} {ms : List (List Nd)} {ss : List St} {a b : Nd} {to : Int} {id : List UInt8} {mean most : Int} (hok : TownOk (h0 :: ms) ss) (hb : HostOf (h0 :: ms) ss to b 0) (hm : mayP most [mean]) (hp : hopP ⟨2, 0, to, 0, id⟩) :
    pathE (hopsW s 0 mean most ms.length (wayN s 0 a b ms) (ms.length + 1) ++ [⟨2, 0, to, 0, id⟩]) = 0 := by
  have hnl : ms.length ≤ 3 := by have := hok.1.2.1; simp only [List.length_cons] at this; omega
  have hl : (hopsW s 0 mean most ms.length (wayN s 0 a b ms) (ms.length + 1) ++ [(⟨2, 0, to, 0, id⟩ : Hop)]).length = ms.length + 2 := by rw [List.length_append, hopsW_len]; rfl
  rw [pathE_good, if_pos]
  · refine ⟨(shape_iff _).2 ⟨by omega, fun i hi => ?_⟩, by omega⟩
    rw [hl] at hi ⊢
    by_cases h : i < ms.length + 1
    · rw [path_delay h]
      simp; omega
    · rw [List.getElem_append_right (by rw [hopsW_len]; omega)]
      simp; omega
  · intro x hx
    rcases List.mem_append.1 hx with hx | hx
    · unfold hopsW at hx
      obtain ⟨i, hi, rfl⟩ := List.mem_map.1 hx
      obtain ⟨h1, h2⟩ := wayN_lay (s := s) (a := a) hok hb (List.mem_range.1 hi)
      obtain ⟨h3, h4, _⟩ := lay_ok hok.2.1 h2
      have h5 := dl_le mean.toNat (word s (0 + 4 * (ms.length + i))) most.toNat
      obtain ⟨h6, h7, _⟩ := hm
      refine .inl ⟨rfl, ?_, ?_, ?_, ?_, rfl, rfl⟩
      · simp only [hopW, List.getD_eq_getElem?_getD, List.getElem?_eq_getElem h1, Option.getD_some]; exact h3
      · simp only [hopW, List.getD_eq_getElem?_getD, List.getElem?_eq_getElem h1, Option.getD_some]; simp only at h4; omega
      · simp only [hopW]; omega
      · simp only [hopW, waitW]; omega
    · rw [List.mem_singleton.1 hx]; exact hp

section
variable {B : Nat} {S R : Ents} {hv mv sv : Value} {h0 : List Nd} {ms : List (List Nd)} {ss : List St}
set_option maxHeartbeats 8000000 in
theorem topoPathsL {frm to number : Int} {s id : List UInt8} {h : Hop} {mean most : Int} (hT : TIn S hv mv sv h0 ms ss) (hs : s.length ≤ lim) :
    CallWp Try.prog B 6 #[.agg #[hv, mv, sv], .agg #[.int .i64 frm, .int .i64 to, .int .i64 number], .agg (drc s id h mean most).toArray] (fun v _ => v = .bool true) S := by
  obtain ⟨a1, c1, a2, c2, a3, c3, rfl, rfl, rfl⟩ := hT.forms
  refine CallWp.enter (args := [_, _, _]) Try.func6 rfl Try.ntmps6 rfl ?_
  refine Wp.seq (Wp.region ?_)
  refine OWp.step rfl (Step.box rfl rfl rfl ?_); intro L3 hBL3 hLL3
  refine OWp.step rfl (Step.box rfl rfl rfl ?_); intro L4 hBL4 hLL4
  refine OWp.step rfl (Step.box rfl rfl rfl ?_); intro L5 hBL5 hLL5
  refine OWp.evs 1 rfl ?_
  refine OWp.nil ?_
  obtain ⟨M0, hM0⟩ : ∃ M0 : Ents, M0 = (L5, cel (drc s id h mean most) 47) :: (L4, cel [.int .i64 frm, .int .i64 to, .int .i64 number] 28) :: (L3, cel [.slice a1 h0.length c1, .slice a2 ms.length c2, .slice a3 ss.length c3] 26) :: S := ⟨_, rfl⟩
  have hT0 : TIn M0 (.slice a1 h0.length c1) (.slice a2 ms.length c2) (.slice a3 ss.length c3) h0 ms ss := by rw [hM0]; exact hT.mono fun _ h => .tail _ (.tail _ (.tail _ h))
  have h50 : (L5, cel (drc s id h mean most) 47) ∈ M0 := by rw [hM0]; exact .head _
  have h40 : (L4, cel [.int .i64 frm, .int .i64 to, .int .i64 number] 28) ∈ M0 := by rw [hM0]; exact .tail _ (.head _)
  have h30 : (L3, cel [.slice a1 h0.length c1, .slice a2 ms.length c2, .slice a3 ss.length c3] 26) ∈ M0 := by rw [hM0]; exact .tail _ (.tail _ (.head _))
  show Wp _ _ _ _ _ _ _
  refine Wp.weaken (S' := M0) (Env.Sub.refl _) (fun w h => by rw [hM0]; exact h) ?_
  refine Wp.seq ?_
  refine Wp.seq (Wp.region ?_)
  refine OWp.step rfl (Step.call rfl rfl rfl rfl rfl rfl ((worksC ?_)))
  intro M hMs
  have hTM := hT0.mono hMs
  replace h50 := hMs _ h50
  replace h40 := hMs _ h40
  replace h30 := hMs _ h30
  refine OWp.evs 1 rfl ?_
  refine OWp.nil ?_
  refine Wp.cond rfl (fun cc1 => (by contradiction)) (fun cc1 => ?_)
  refine Wp.skip ?_
  refine Wp.seq (Wp.region ?_)
  refine OWp.evs 1 rfl ?_
  refine OWp.load h50 rfl rfl rfl rfl rfl ?_
  refine OWp.step rfl (Step.call rfl rfl rfl rfl rfl rfl ((tapeNew ?_)))
  intro Lx hBx _
  refine OWp.evs 1 rfl ?_
  refine OWp.nil ?_
  refine Wp.seq (Wp.region ?_)
  refine OWp.load (.tail _ h30) rfl rfl rfl rfl rfl ?_
  refine OWp.evs 2 rfl ?_
  refine OWp.load (.tail _ h40) rfl rfl rfl rfl rfl ?_
  refine OWp.evs 1 rfl ?_
  refine OWp.load (.tail _ h40) rfl rfl rfl rfl rfl ?_
  refine OWp.evs 1 rfl ?_
  refine OWp.load (.tail _ h50) rfl rfl rfl rfl rfl ?_
  refine OWp.step rfl (Step.call rfl rfl rfl rfl rfl rfl ((homeC (s := s) (k := 0) (id := idW) hBx hs (Nat.zero_le _) hTM ?_)))
  intro w pv qv es1 es2 hw hin
  obtain ⟨pa, pc, rfl⟩ := hin.1.reads.form
  obtain ⟨qa, qc, rfl⟩ := hin.2.reads.form
  refine OWp.evs 3 rfl ?_
  refine OWp.step rfl (Step.alloc rfl rfl rfl ?_); intro L8 hBL8 hLL8
  refine OWp.step rfl (Step.storeAs 0 ([.slice pa w.1.length pc, .slice qa w.2.1.length qc]) rfl rfl rfl rfl rfl (by assumption) rfl (Unfz.zero _) rfl (Nat.le_of_ble_eq_true rfl) rfl rfl ?_)
  refine OWp.evs 1 rfl ?_
  refine OWp.nil ?_
  obtain ⟨M1, hM1⟩ : ∃ M1 : Ents, M1 = (L8, cel [.slice pa w.1.length pc, .slice qa w.2.1.length qc] 56) :: tp Lx s w.2.2.2 :: (es1 ++ (es2 ++ M)) := ⟨_, rfl⟩
  have h8 : (L8, cel [.slice pa w.1.length pc, .slice qa w.2.1.length qc] 56) ∈ M1 := by rw [hM1]; exact .head _
  have hx : tp Lx s w.2.2.2 ∈ M1 := by rw [hM1]; exact .tail _ (.head _)
  have hr1 : Reads M1 1 (.slice pa w.1.length pc) w.1.length (txt w.1) := hin.1.reads.mono fun x hx => by rw [hM1]; exact .tail _ (.tail _ (List.mem_append_left _ hx))
  have hr2 : Reads M1 5 (.slice qa w.2.1.length qc) w.2.1.length (w.2.1.flatMap Hop.cells) := hin.2.reads.mono fun x hx => by rw [hM1]; exact .tail _ (.tail _ (List.mem_append_right _ (List.mem_append_left _ hx)))
  have hMM : ∀ x ∈ M, x ∈ M1 := fun x hx => by rw [hM1]; exact .tail _ (.tail _ (List.mem_append_right _ (List.mem_append_right _ hx)))
  replace h50 := hMM _ h50
  replace h40 := hMM _ h40
  replace h30 := hMM _ h30
  replace hTM := hTM.mono hMM
  show Wp _ _ _ _ _ _ _
  refine Wp.weaken (S' := M1) (Env.Sub.refl _) (fun w h => by rw [hM1]; exact h) ?_
  refine Wp.seq ?_
  refine Wp.seq (Wp.region ?_)
  refine OWp.evs 2 rfl ?_
  refine OWp.nil ?_
  refine Wp.cond rfl (fun e1 => ?_) (fun e1 => ?_)
  · have e1 := ndT e1
    have e := home_not hw e1
    generalize w.2.2.1 = ee at e
    subst e
    refine Wp.seq (Wp.regionDraw [0, 1, 2, 3, 4, 5, 6, 7, 9, 10, 11, 8, 12, 13, 14] [8] rfl (by decide +kernel) ?_)
    refine DWp.evs 1 rfl ?_
    refine DWp.load h8 rfl rfl rfl rfl rfl rfl rfl ?_
    refine DWp.evs 3 rfl ?_
    refine DWp.evs 4 rfl ?_
    refine DWp.load h50 rfl rfl rfl rfl rfl rfl rfl ?_
    refine DWp.evs 1 rfl ?_
    refine DWp.stepGrow rfl rfl rfl (Step.call rfl rfl rfl rfl rfl rfl ((left (s := s) (k := 0) hx (Nat.zero_le _) hs ?_)))
    refine ⟨fun _ hy => hy, ?_⟩
    refine DWp.evs 3 rfl ?_
    refine DWp.nil ?_
    refine Wp.ret ⟨trivial, _, ⟨_, _, rfl, rfl, rfl⟩, ?_⟩
    simp [tup]
  have e1 := ndF e1
  obtain ⟨a, b, ha, hb, hp, hm, hlen, rfl⟩ := home_drawn hw e1
  have hok : TownOk (h0 :: ms) ss := by rcases hostOf_no ha with ⟨_, hok, _⟩ | h | h; exact hok; all_goals cases h
  have hnl : ms.length ≤ 3 := by have := hok.1.2.1; simp only [List.length_cons] at this; omega
  have hpath := way_path (s := s) (a := a) hok hb hm hp
  obtain ⟨N, hN⟩ : ∃ N, N = wayN s 0 a b ms := ⟨_, rfl⟩
  have lN : N.length = ms.length + 2 := by rw [hN, wayN_len]
  have hlay : ∀ i, i < ms.length + 1 → ∃ h : i + 1 < N.length, (((if i = ms.length then 0 else i + 1 : Nat) : Int), N[i + 1]) ∈ lay (h0 :: ms) 0 := fun i hi => by subst hN; exact wayN_lay hok hb hi
  have hfst : N[0]'(by omega) = a := by subst hN; rfl
  have hlst : N[ms.length + 1]'(by omega) = b := by
    subst hN
    unfold wayN
    rw [List.getElem_cons_succ, List.getElem_append_right (by rw [picks_len]; omega)]
    simp
  simp only [← hN] at *
  obtain ⟨H1, hH1⟩ : ∃ H1, H1 = hopsW s 0 mean most ms.length N (ms.length + 1) ++ [⟨2, 0, to, 0, idW⟩] := ⟨_, rfl⟩
  have lH1 : H1.length = ms.length + 2 := by rw [hH1, List.length_append, hopsW_len]; rfl
  have eD : ∀ i (h1 : i < H1.length) (h2 : i + 1 < N.length), i < ms.length + 1 → H1[i].node = N[i + 1].1 ∧ H1[i].delay ≤ most := fun i h1 h2 hi => by
    subst hH1
    rw [path_delay hi]
    have h5 := dl_le mean.toNat (word s (0 + 4 * (ms.length + i))) most.toNat
    obtain ⟨h6, _⟩ := hm
    refine ⟨by simp [h2], ?_⟩
    simp only [waitW]; omega
  have eL : H1[ms.length + 1]'(by omega) = ⟨2, 0, to, 0, idW⟩ := by
    subst hH1
    rw [List.getElem_append_right (by rw [hopsW_len]; omega)]
    simp
  simp only [← hH1] at *
  obtain ⟨P1, hP1⟩ : ∃ P1, P1 = N.map (·.2) := ⟨_, rfl⟩
  have lP1 : P1.length = ms.length + 2 := by rw [hP1, List.length_map, lN]
  have eP : ∀ i (h1 : i < P1.length) (h2 : i < N.length), P1[i] = N[i].2 := fun i h1 h2 => by subst hP1; simp
  simp only [← hP1] at *
  obtain ⟨b1, o1, k1, l1, t1, f1, hv1, hm1, hat1⟩ := txt_at hr1 (by omega)
  obtain ⟨b2, o2, k2, l2, t2, f2, hv2, hm2, hat2⟩ := hop_at hr2 (by omega)
  obtain ⟨b5, o5, k5, l5, t5, f5, hv5, hm5, hat5⟩ := hcell_at hr2 (by omega)
  cases hv1
  cases hv2
  cases hv5
  refine Wp.skip ?_
  refine Wp.seq ?_
  refine Wp.seq (Wp.regionDraw [0, 1, 2, 3, 4, 5, 6, 7, 8, 9, 10, 11, 12, 13, 14, 15, 16, 17, 18, 19, 20, 21, 22, 23, 24, 25, 26, 27, 28, 29, 32, 30, 31, 33, 34, 35, 36] [2, 30, 33] rfl (by decide +kernel) ?_)
  refine DWp.evs 1 rfl ?_
  refine DWp.load h8 rfl rfl rfl rfl rfl rfl rfl ?_
  refine DWp.stepGrow rfl rfl rfl (Step.call rfl rfl rfl rfl rfl rfl ((pathC hr2 rfl (by unfold lim; omega) ?_)))
  refine ⟨fun _ hy => hy, ?_⟩
  rw [hpath]
  refine DWp.evs 2 rfl ?_
  refine DWp.part 55 rfl (fun cc2 => absurd (ndT cc2) (by exact fun h => h rfl)) (fun cc2 => ?_)
  have cc2 := ndF cc2
  refine DWp.evs 1 rfl ?_
  refine DWp.load h8 rfl rfl rfl rfl rfl rfl rfl ?_
  refine DWp.evs 2 rfl ?_
  refine DWp.load h8 rfl rfl rfl rfl rfl rfl rfl ?_
  refine DWp.evs 4 rfl ?_
  refine DWp.part 64 rfl (fun cc3 => absurd (ndT cc3) (by omega)) (fun cc3 => ?_)
  have cc3 := ndF cc3
  refine DWp.evs 1 rfl ?_
  refine DWp.load h8 rfl rfl rfl rfl rfl rfl rfl ?_
  refine DWp.evs 2 rfl ?_
  refine DWp.load h30 rfl rfl rfl rfl rfl rfl rfl ?_
  refine DWp.evs 5 rfl ?_
  refine DWp.part 74 rfl (fun cc4 => absurd (ndT cc4) (by rw [i64_id] <;> omega)) (fun cc4 => ?_)
  have cc4 := ndF cc4
  refine DWp.evs 1 rfl ?_
  refine DWp.load h50 rfl rfl rfl rfl rfl rfl rfl ?_
  refine DWp.evs 4 rfl ?_
  refine DWp.load h30 rfl rfl rfl rfl rfl rfl rfl ?_
  refine DWp.stepGrow rfl rfl rfl (Step.call rfl rfl rfl rfl rfl rfl ((left (s := s) (k := 4 * (2 * ms.length + 1)) hx (by omega) hs ?_)))
  refine ⟨fun _ hy => hy, ?_⟩
  refine DWp.evs 1 rfl ?_
  refine DWp.step rfl rfl rfl (Step.call rfl rfl rfl rfl rfl rfl ((wordsC hTM ?_)))
  intro n hn
  obtain rfl := words_one hn (.inl ⟨hok, rfl⟩)
  refine ⟨by (repeat (first | exact pr_nil | refine pr_kept ?_ | refine pr_free ?_ | refine pr_cons (by repeat (first | exact List.Mem.head _ | assumption | exact List.mem_append_left _ (by assumption) | apply List.mem_cons_of_mem | apply List.mem_append_right)) ?_)), ?_⟩
  have hs' := hs
  unfold lim at hs'
  refine DWp.evs 3 rfl ?_
  refine DWp.nil ?_
  refine Wp.cond rfl (fun cc5 => absurd (ndT cc5) (by intro hne; refine hne ?_; simp only [List.length_cons, Nat.add_sub_cancel]; rw [i64_id (by omega) (by omega), i64_id (by omega) (by omega)]; omega)) (fun cc5 => ?_)
  have cc5 := ndF cc5
  refine Wp.skip ?_
  refine Wp.seq (Wp.region ?_)
  refine OWp.load h30 rfl rfl rfl rfl rfl ?_
  refine OWp.evs 1 rfl ?_
  refine OWp.load h40 rfl rfl rfl rfl rfl ?_
  refine OWp.step rfl (Step.call rfl rfl rfl rfl rfl rfl ((hostC hTM ?_)))
  intro n1 e2 hn1
  obtain ⟨rfl, rfl⟩ := hostOf_one hn1 ha
  refine OWp.evs 3 rfl ?_
  refine OWp.step rfl (Step.alloc rfl rfl rfl ?_); intro L10 hBL10 hLL10
  refine OWp.step rfl (Step.storeAs 0 ((ndc n1)) rfl rfl rfl rfl rfl (by assumption) rfl (Unfz.zero _) rfl (Nat.le_of_ble_eq_true rfl) rfl rfl ?_)
  refine OWp.evs 1 rfl ?_
  refine OWp.nil ?_
  refine Wp.seq ?_
  refine Wp.seq (Wp.regionDraw [0, 1, 2, 3, 4, 5, 6, 7, 8, 9, 10] [] rfl (by decide +kernel) ?_)
  refine DWp.evs 3 rfl ?_
  refine DWp.evs 1 rfl ?_
  refine DWp.load (.tail _ h8) rfl rfl rfl rfl rfl rfl rfl ?_
  refine DWp.g rfl rfl rfl rfl (Gives.indexAddrSlice (0) rfl rfl rfl rfl rfl rfl (by omega)) ?_
  refine DWp.load (.tail _ hm1) rfl rfl rfl rfl rfl rfl (hat1 0 (by omega)) ?_
  refine DWp.evs 1 rfl ?_
  refine DWp.load (.head _) rfl rfl rfl rfl rfl rfl rfl ?_
  rw [eP 0 (by omega) (by omega), hfst]
  refine DWp.evs 2 rfl ?_
  refine DWp.nil ?_
  refine Wp.cond rfl (fun cc6 => absurd (ndT cc6) (by exact fun h => h rfl)) (fun cc6 => ?_)
  have cc6 := ndF cc6
  refine Wp.skip ?_
  refine Wp.seq ?_
  refine Wp.seq (Wp.region ?_)
  refine OWp.evs 1 rfl ?_
  refine OWp.load (.tail _ h8) rfl rfl rfl rfl rfl ?_
  refine OWp.evs 3 rfl ?_
  refine OWp.nil ?_
  show Wp _ _ _ _ _ _ (_ :: M1)
  refine Wp.drop (List.sublist_cons_self _ _) ?_
  refine Wp.block ?_
  refine Wp.loopS (α := Nat) (fun i => ms.length + 1 - i) (fun i => [(3, pt L3), (4, pt L4), (5, pt L5), (8, pt L8), (109, .int .i64 ((ms.length + 1 : Nat) : Int)), (110, .int .i64 (i : Int))]) (fun _ => M1) (fun i => i ≤ ms.length + 1) 0 ?_ (.refl _) (Nat.zero_le _) ?_
  · exact .cons rfl (.cons rfl (.cons rfl (.cons rfl (.cons' rfl (int_eq (by rw [i64_id] <;> omega)) (.cons rfl (.nil _))))))
  rintro i hi
  refine Wp.seq (Wp.region ?_)
  refine OWp.evs 1 rfl ?_
  refine OWp.nil ?_
  refine Wp.seq ?_
  refine Wp.cond rfl (fun h1 => ?_) (fun h1 => ?_)
  · have h1 := of_decide_eq_true h1
    have hi1 : i < ms.length + 1 := by omega
    obtain ⟨hj, hmem⟩ := hlay i hi1
    obtain ⟨eN, eM⟩ := eD i (by omega) hj hi1
    have hfind : findP (h0 :: ms) H1[i].node = some (((if i = ms.length then 0 else i + 1 : Nat) : Int), N[i + 1]) := by rw [eN]; exact findP_mem hok.2.1 hmem
    refine Wp.skip ?_
    refine Wp.seq ?_
    refine Wp.block ?_
    refine Wp.seq (Wp.region ?_)
    refine OWp.evs 2 rfl ?_
    refine OWp.nil ?_
    refine Wp.seqS (α := Nat) (fun z => [(3, pt L3), (4, pt L4), (5, pt L5), (8, pt L8), (11, .int .i64 (i : Int)), (12, pt z), (13, .int .i64 ((if i = ms.length then 0 else i + 1 : Nat) : Int)), (14, .int .i64 0), (109, .int .i64 ((ms.length + 1 : Nat) : Int)), (110, .int .i64 (i : Int))]) (fun z => (z, cel (ndc N[i + 1]) 31) :: M1) (fun z => B ≤ z) ?_ ?_
    · skip
      refine Wp.regionDraw [0, 1, 2, 3, 4, 5, 6, 16, 16, 16, 16, 16, 16, 16, 16, 16] [7, 12, 13] rfl (by decide +kernel) ?_
      refine DWp.load h30 rfl rfl rfl rfl rfl rfl rfl ?_
      refine DWp.evs 1 rfl ?_
      refine DWp.load h8 rfl rfl rfl rfl rfl rfl rfl ?_
      refine DWp.evs 1 rfl ?_
      refine DWp.g rfl rfl rfl rfl (Gives.indexAddrSlice (i) rfl rfl rfl rfl rfl rfl (by omega)) ?_
      refine DWp.evs 1 rfl ?_
      refine DWp.load hm5 rfl rfl rfl rfl rfl rfl ((hat5 i (by omega) 1 (by decide)).trans rfl) ?_
      refine DWp.forkTo [7, 12] (by decide +kernel) (by simp) ?_
      intro xx hxx
      simp only [List.mem_cons, List.mem_nil_iff, or_false] at hxx
      rcases hxx with rfl | rfl
      · refine ⟨_, [8, 9, 10, 11, 12, 13, 14, 15], rfl, rfl, by decide +kernel, rfl, ?_⟩
        refine (Step.call rfl rfl rfl rfl rfl rfl (nodeC (hTM.mono fun x hx => (by repeat (first | exact hx | apply List.mem_cons_of_mem | apply List.mem_append_right))) ?_))
        intro n2 ly e5 hn2
        obtain ⟨rfl, rfl, rfl⟩ := nodeOf_one hn2 (.inl ⟨hok, .inl ⟨hfind, rfl⟩⟩)
        refine ⟨by (repeat (first | exact pr_nil | refine pr_kept ?_ | refine pr_free ?_ | refine pr_cons (by repeat (first | exact List.Mem.head _ | assumption | exact List.mem_append_left _ (by assumption) | apply List.mem_cons_of_mem | apply List.mem_append_right)) ?_)), ?_⟩
        refine DWp.evs 4 rfl ?_
        refine DWp.step rfl rfl rfl (Step.alloc rfl rfl rfl ?_); intro L12 hBL12 hLL12
        refine ⟨by (repeat (first | exact pr_nil | refine pr_kept ?_ | refine pr_free ?_ | refine pr_cons (by repeat (first | exact List.Mem.head _ | assumption | exact List.mem_append_left _ (by assumption) | apply List.mem_cons_of_mem | apply List.mem_append_right)) ?_)), ?_⟩
        refine DWp.step rfl rfl rfl (Step.storeAs 0 (ndc N[i + 1]) rfl rfl rfl rfl rfl hBL12 rfl (Unfz.zero _) rfl (Nat.le_of_ble_eq_true rfl) rfl rfl ?_)
        refine ⟨by (repeat (first | exact pr_nil | refine pr_kept ?_ | refine pr_free ?_ | refine pr_cons (by repeat (first | exact List.Mem.head _ | assumption | exact List.mem_append_left _ (by assumption) | apply List.mem_cons_of_mem | apply List.mem_append_right)) ?_)), ?_⟩
        refine DWp.evs 2 rfl ?_
        refine DWp.nil ?_
        exact ⟨L12, hBL12, .cons rfl (.cons rfl (.cons rfl (.cons rfl (.cons rfl (.cons rfl (.cons rfl (.cons rfl (.cons rfl (.cons rfl (.nil _)))))))))), (permBy [[(L12, cel (ndc N[i + 1]) 31)]] (M1) [0] [0] (by decide) : List.Perm ([(L12, cel (ndc N[i + 1]) 31)] ++ (M1)) ([(L12, cel (ndc N[i + 1]) 31)] ++ (M1)))⟩
      · refine ⟨_, [7, 8, 9, 10, 11, 13, 14, 15], rfl, rfl, by decide +kernel, rfl, ?_⟩
        refine (Step.alloc rfl rfl rfl ?_); intro L12 hBL12 hLL12
        refine ⟨by (repeat (first | exact pr_nil | refine pr_kept ?_ | refine pr_free ?_ | refine pr_cons (by repeat (first | exact List.Mem.head _ | assumption | exact List.mem_append_left _ (by assumption) | apply List.mem_cons_of_mem | apply List.mem_append_right)) ?_)), ?_⟩
        refine DWp.step rfl rfl rfl (Step.call rfl rfl rfl rfl rfl rfl (nodeC (hTM.mono fun x hx => (by repeat (first | exact hx | apply List.mem_cons_of_mem | apply List.mem_append_right))) ?_))
        intro n2 ly e5 hn2
        obtain ⟨rfl, rfl, rfl⟩ := nodeOf_one hn2 (.inl ⟨hok, .inl ⟨hfind, rfl⟩⟩)
        refine ⟨by (repeat (first | exact pr_nil | refine pr_kept ?_ | refine pr_free ?_ | refine pr_cons (by repeat (first | exact List.Mem.head _ | assumption | exact List.mem_append_left _ (by assumption) | apply List.mem_cons_of_mem | apply List.mem_append_right)) ?_)), ?_⟩
        refine DWp.evs 4 rfl ?_
        refine DWp.step rfl rfl rfl (Step.storeAs 0 (ndc N[i + 1]) rfl rfl rfl rfl rfl hBL12 rfl (Unfz.zero _) rfl (Nat.le_of_ble_eq_true rfl) rfl rfl ?_)
        refine ⟨by (repeat (first | exact pr_nil | refine pr_kept ?_ | refine pr_free ?_ | refine pr_cons (by repeat (first | exact List.Mem.head _ | assumption | exact List.mem_append_left _ (by assumption) | apply List.mem_cons_of_mem | apply List.mem_append_right)) ?_)), ?_⟩
        refine DWp.evs 2 rfl ?_
        refine DWp.nil ?_
        exact ⟨L12, hBL12, .cons rfl (.cons rfl (.cons rfl (.cons rfl (.cons rfl (.cons rfl (.cons rfl (.cons rfl (.cons rfl (.cons rfl (.nil _)))))))))), (permBy [[(L12, cel (ndc N[i + 1]) 31)]] (M1) [0] [0] (by decide) : List.Perm ([(L12, cel (ndc N[i + 1]) 31)] ++ (M1)) ([(L12, cel (ndc N[i + 1]) 31)] ++ (M1)))⟩
    intro L12 hBL12
    have eP1 := eP (i + 1) (by omega) hj
    refine Wp.seq (Wp.region ?_)
    refine OWp.evs 3 rfl ?_
    refine OWp.nil ?_
    refine Wp.seq ?_
    refine Wp.seq (Wp.region ?_)
    refine OWp.evs 2 rfl ?_
    refine OWp.load (.tail _ h30) rfl rfl rfl rfl rfl ?_
    refine OWp.evs 2 rfl ?_
    refine OWp.nil ?_
    refine Wp.cond rfl (fun g1 => ?_) (fun g1 => ?_)
    · have g1 := of_decide_eq_true g1
      obtain rfl : i = ms.length := by omega
      refine Wp.region ?_
      refine OWp.evs 1 rfl ?_
      refine OWp.nil ?_
      refine Wp.seq (Wp.regionDraw [0, 1, 2, 3, 4, 5, 6, 7, 8, 9, 10, 11, 12, 13, 14, 15, 16, 17, 18, 19, 20, 21, 22, 23, 24, 25, 26, 27, 28, 29] [] rfl (by decide +kernel) ?_)
      refine DWp.evs 3 rfl ?_
      refine DWp.evs 5 rfl ?_
      refine DWp.part 139 rfl (fun cc8 => absurd (ndT cc8) (by first | (simp; done) | (intro hne; refine hne ?_; rw [if_neg (by omega), i64_id (by omega) (by omega)]; omega))) (fun cc8 => ?_)
      have cc8 := ndF cc8
      refine DWp.evs 1 rfl ?_
      refine DWp.load (.head _) rfl rfl rfl rfl rfl rfl rfl ?_
      refine DWp.evs 1 rfl ?_
      refine DWp.load (.tail _ h8) rfl rfl rfl rfl rfl rfl rfl ?_
      refine DWp.evs 2 rfl ?_
      refine DWp.g rfl rfl rfl rfl (Gives.indexAddrSlice ((ms.length + 1)) rfl rfl rfl rfl rfl (by rw [i64_id] <;> omega) (by omega)) ?_
      refine DWp.load (.tail _ hm1) rfl rfl rfl rfl rfl rfl (hat1 (ms.length + 1) (by omega)) ?_
      rw [eP1]
      refine DWp.evs 3 rfl ?_
      refine DWp.part 150 rfl (fun cc9 => absurd (ndT cc9) (by exact fun h => h rfl)) (fun cc9 => ?_)
      have cc9 := ndF cc9
      refine DWp.evs 1 rfl ?_
      refine DWp.load (.tail _ h8) rfl rfl rfl rfl rfl rfl rfl ?_
      refine DWp.evs 1 rfl ?_
      refine DWp.g rfl rfl rfl rfl (Gives.indexAddrSlice (ms.length) rfl rfl rfl rfl rfl rfl (by omega)) ?_
      refine DWp.evs 1 rfl ?_
      refine DWp.load (.tail _ hm5) rfl rfl rfl rfl rfl rfl ((hat5 ms.length (by omega) 3 (by decide)).trans rfl) ?_
      refine DWp.evs 2 rfl ?_
      refine DWp.load (.tail _ h50) rfl rfl rfl rfl rfl rfl rfl ?_
      refine DWp.evs 2 rfl ?_
      refine DWp.nil ?_
      refine Wp.cond rfl (fun cc10 => absurd (of_decide_eq_true cc10) (by omega)) (fun cc10 => ?_)
      have cc10 := of_decide_eq_false cc10
      refine Wp.skip ?_
      refine Wp.drop (List.sublist_cons_self _ _) ?_
      refine Wp.region ?_
      refine OWp.evs 2 rfl ?_
      refine OWp.nil ?_
      exact ⟨ms.length + 1, by omega, by omega, .cons rfl (.cons rfl (.cons rfl (.cons rfl (.cons rfl (.cons' rfl (int_eq (by rw [i64_id] <;> omega)) (.nil _)))))), .refl _⟩
    have g1 := of_decide_eq_false g1
    refine Wp.skip ?_
    refine Wp.seq (Wp.regionDraw [0, 1, 2, 3, 4, 5, 6, 7, 8, 9, 10, 11, 12, 13, 14, 15, 16, 17, 18, 19, 20, 21, 22, 23, 24, 25, 26, 27, 28, 29] [] rfl (by decide +kernel) ?_)
    refine DWp.evs 3 rfl ?_
    refine DWp.evs 5 rfl ?_
    refine DWp.part 139 rfl (fun cc11 => absurd (ndT cc11) (by first | (simp; done) | (intro hne; refine hne ?_; rw [if_neg (by omega), i64_id (by omega) (by omega)]; omega))) (fun cc11 => ?_)
    have cc11 := ndF cc11
    refine DWp.evs 1 rfl ?_
    refine DWp.load (.head _) rfl rfl rfl rfl rfl rfl rfl ?_
    refine DWp.evs 1 rfl ?_
    refine DWp.load (.tail _ h8) rfl rfl rfl rfl rfl rfl rfl ?_
    refine DWp.evs 2 rfl ?_
    refine DWp.g rfl rfl rfl rfl (Gives.indexAddrSlice ((i + 1)) rfl rfl rfl rfl rfl (by rw [i64_id] <;> omega) (by omega)) ?_
    refine DWp.load (.tail _ hm1) rfl rfl rfl rfl rfl rfl (hat1 (i + 1) (by omega)) ?_
    rw [eP1]
    refine DWp.evs 3 rfl ?_
    refine DWp.part 150 rfl (fun cc12 => absurd (ndT cc12) (by exact fun h => h rfl)) (fun cc12 => ?_)
    have cc12 := ndF cc12
    refine DWp.evs 1 rfl ?_
    refine DWp.load (.tail _ h8) rfl rfl rfl rfl rfl rfl rfl ?_
    refine DWp.evs 1 rfl ?_
    refine DWp.g rfl rfl rfl rfl (Gives.indexAddrSlice (i) rfl rfl rfl rfl rfl rfl (by omega)) ?_
    refine DWp.evs 1 rfl ?_
    refine DWp.load (.tail _ hm5) rfl rfl rfl rfl rfl rfl ((hat5 i (by omega) 3 (by decide)).trans rfl) ?_
    refine DWp.evs 2 rfl ?_
    refine DWp.load (.tail _ h50) rfl rfl rfl rfl rfl rfl rfl ?_
    refine DWp.evs 2 rfl ?_
    refine DWp.nil ?_
    refine Wp.cond rfl (fun cc13 => absurd (of_decide_eq_true cc13) (by omega)) (fun cc13 => ?_)
    have cc13 := of_decide_eq_false cc13
    refine Wp.skip ?_
    refine Wp.drop (List.sublist_cons_self _ _) ?_
    refine Wp.region ?_
    refine OWp.evs 2 rfl ?_
    refine OWp.nil ?_
    exact ⟨i + 1, by omega, by omega, .cons rfl (.cons rfl (.cons rfl (.cons rfl (.cons rfl (.cons' rfl (int_eq (by rw [i64_id] <;> omega)) (.nil _)))))), .refl _⟩
  have h1 := of_decide_eq_false h1
  obtain rfl : i = ms.length + 1 := by omega
  refine Wp.exit ?_
  refine Wp.seq (Wp.region ?_)
  refine OWp.evs 1 rfl ?_
  refine OWp.load h8 rfl rfl rfl rfl rfl ?_
  refine OWp.evs 1 rfl ?_
  refine OWp.load h8 rfl rfl rfl rfl rfl ?_
  refine OWp.evs 2 rfl ?_
  refine OWp.g rfl rfl (Gives.indexAddrSlice (ms.length + 1) rfl rfl rfl rfl rfl (by rw [i64_id] <;> omega) (by omega)) ?_
  refine OWp.load hm2 rfl rfl rfl rfl ((hat2 (ms.length + 1) (by omega)).trans (by rw [eL])) ?_
  refine OWp.step rfl (Step.alloc rfl rfl rfl ?_); intro L16 hBL16 hLL16
  refine OWp.step rfl (Step.storeAs 0 ((Hop.cells ⟨2, 0, to, 0, idW⟩)) rfl rfl rfl rfl rfl (by assumption) rfl (Unfz.zero _) rfl (Nat.le_of_ble_eq_true rfl) rfl rfl ?_)
  refine OWp.nil ?_
  refine Wp.seq (Wp.region ?_)
  refine OWp.load (.tail _ h30) rfl rfl rfl rfl rfl ?_
  refine OWp.evs 1 rfl ?_
  refine OWp.load (.tail _ h40) rfl rfl rfl rfl rfl ?_
  refine OWp.step rfl (Step.call rfl rfl rfl rfl rfl rfl ((hostC (hTM.mono fun _ h => .tail _ h) ?_)))
  intro n3 e6 hn3
  obtain ⟨rfl, rfl⟩ := hostOf_one hn3 hb
  refine OWp.evs 3 rfl ?_
  refine OWp.step rfl (Step.alloc rfl rfl rfl ?_); intro L17 hBL17 hLL17
  refine OWp.step rfl (Step.storeAs 0 ((ndc n3)) rfl rfl rfl rfl rfl (by assumption) rfl (Unfz.zero _) rfl (Nat.le_of_ble_eq_true rfl) rfl rfl ?_)
  refine OWp.evs 1 rfl ?_
  refine OWp.nil ?_
  refine Wp.seq (Wp.regionDraw [0, 1, 2, 3, 4, 5, 6, 7, 8, 9, 10, 11, 12, 13, 14, 15, 16, 17, 18, 19, 20, 21, 22] [] rfl (by decide +kernel) ?_)
  refine DWp.evs 3 rfl ?_
  refine DWp.load (.tail _ (.head _)) rfl rfl rfl rfl rfl rfl rfl ?_
  refine DWp.evs 1 rfl ?_
  refine DWp.load (.tail _ (.tail _ h40)) rfl rfl rfl rfl rfl rfl rfl ?_
  refine DWp.g rfl rfl rfl rfl (Gives.build rfl rfl) ?_
  refine DWp.g rfl rfl rfl rfl (Gives.eqStruct (r := true) 10 rfl rfl rfl rfl hopG (hopSelf ⟨2, 0, to, 0, idW⟩)) ?_
  refine DWp.evs 2 rfl ?_
  refine DWp.evs 1 rfl ?_
  refine DWp.load (.tail _ (.tail _ h8)) rfl rfl rfl rfl rfl rfl rfl ?_
  refine DWp.evs 1 rfl ?_
  refine DWp.load (.tail _ (.tail _ h8)) rfl rfl rfl rfl rfl rfl rfl ?_
  refine DWp.evs 2 rfl ?_
  refine DWp.g rfl rfl rfl rfl (Gives.indexAddrSlice (ms.length + 1) rfl rfl rfl rfl rfl (by rw [i64_id] <;> omega) (by omega)) ?_
  refine DWp.load (.tail _ (.tail _ hm1)) rfl rfl rfl rfl rfl rfl (hat1 (ms.length + 1) (by omega)) ?_
  refine DWp.evs 1 rfl ?_
  refine DWp.load (.head _) rfl rfl rfl rfl rfl rfl rfl ?_
  refine DWp.evs 3 rfl ?_
  refine DWp.nil ?_
  rw [eP (ms.length + 1) (by omega) (by omega), hlst]
  refine Wp.ret ⟨trivial, _, ⟨_, _, rfl, rfl, rfl⟩, ?_⟩
  simp [tup]
end
theorem topoPathsW {a0 a1 a2 : Array Value} {S : Ents} {B : Nat} (h0 : Rd Try.prog S 26 a0.toList) (h1 : Rd Try.prog S 28 a1.toList) (h2 : Rd Try.prog S 47 a2.toList) :
    CallWp Try.prog B 6 #[.agg a0, .agg a1, .agg a2] (fun v _ => v = .bool true) S := by
  obtain ⟨hv, mv, sv, h0, ms, ss, e0, hT⟩ := rdTown h0
  obtain ⟨a, b, c, e1⟩ := rdAsk h1
  obtain ⟨s, id, h, mean, most, e2, hs⟩ := rdDraw h2
  have e0' : a0 = #[hv, mv, sv] := by rw [← Array.toArray_toList (xs := a0), e0]
  have e1' : a1 = #[.int .i64 a, .int .i64 b, .int .i64 c] := by rw [← Array.toArray_toList (xs := a1), e1]
  have e2' : a2 = (drc s id h mean most).toArray := by rw [← Array.toArray_toList (xs := a2), e2]
  subst e0' e1' e2'
  exact topoPathsL hT hs
end Go.Proofs.C
