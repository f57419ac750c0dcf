/- What functions of the given program do, one after the other, told by that layer. -/
import Derived.Test.YtlhpbeldhpljnaaPM7x50f4
import Derived.Test.YtlhpbeldhpljnaaPTopo19
namespace Go.Proofs.C
open Go.Lg
set_option maxRecDepth 100000

theorem wayR_short {s : List UInt8} {k : Nat} {a b : Nd} {ms : List (List Nd)} {h : Hop} {mean most : Int} (hl : ms.length ≤ 3) : (wayR s k a b ms h mean most).1.length ≤ 5 ∧ (wayR s k a b ms h mean most).2.1.length ≤ 5 := by
  unfold wayR
  split
  · simp
  split
  · simp
  · simp only [List.length_map, wayN_len, List.length_append, hopsW_len, List.length_singleton]; omega
theorem host_layers {h0 : List Nd} {ms : List (List Nd)} {ss : List St} {u : Int} {n : Nd} (h : HostOf (h0 :: ms) ss u n 0) : ms.length ≤ 3 := by
  rcases hostOf_no h with ⟨_, hok, _⟩ | h | h
  · have := hok.1.2.1; simp only [List.length_cons] at this; omega
  · cases h
  · cases h
theorem home_one {h0 : List Nd} {ms : List (List Nd)} {ss : List St} {s : List UInt8} {k : Nat} {frm to : Int} {id : List UInt8} {mean most : Int} {w w' : WayT} (h : HomeOf h0 ms ss s k frm to id mean most w) (h' : HomeOf h0 ms ss s k frm to id mean most w') : w = w' := by
  rcases h with ⟨a, e, h1, h2, rfl⟩ | ⟨a, b, e, h1, h2, h3, rfl⟩ | ⟨a, b, h1, h2, h3, rfl⟩ | ⟨a, b, h1, h2, h3, rfl⟩ <;>
    rcases h' with ⟨a', e', g1, g2, rfl⟩ | ⟨a', b', e', g1, g2, g3, rfl⟩ | ⟨a', b', g1, g2, g3, rfl⟩ | ⟨a', b', g1, g2, g3, rfl⟩
  all_goals obtain ⟨rfl, q1⟩ := hostOf_one h1 g1
  · rw [q1]
  · exact absurd q1 h2
  · exact absurd q1 h2
  · exact absurd q1 h2
  · exact absurd q1.symm g2
  · rw [(hostOf_one h2 g2).2]
  · exact absurd (hostOf_one h2 g2).2 h3
  · exact absurd (hostOf_one h2 g2).2 h3
  · exact absurd q1.symm g2
  · exact absurd (hostOf_one h2 g2).2.symm g3
  · rfl
  · exact absurd g3 h3
  · exact absurd q1.symm g2
  · exact absurd (hostOf_one h2 g2).2.symm g3
  · exact absurd h3 g3
  · rw [(hostOf_one h2 g2).1]
theorem loose_one {h0 : List Nd} {ms : List (List Nd)} {ss : List St} {s : List UInt8} {k : Nat} {frm number : Int} {h : Hop} {mean most : Int} {w w' : WayT} (hw : LooseOf h0 ms ss s k frm number h mean most w) (hw' : LooseOf h0 ms ss s k frm number h mean most w') : w = w' := by
  rcases hw with ⟨a, e, h1, h2, rfl⟩ | ⟨a, h1, h2, rfl⟩ | ⟨a, b, ly, h1, h2, h3, h4, rfl⟩ | ⟨a, b, ly, h1, h2, h3, h4, rfl⟩ <;>
    rcases hw' with ⟨a', e', g1, g2, rfl⟩ | ⟨a', g1, g2, rfl⟩ | ⟨a', b', ly', g1, g2, g3, g4, rfl⟩ | ⟨a', b', ly', g1, g2, g3, g4, rfl⟩
  all_goals obtain ⟨rfl, q1⟩ := hostOf_one h1 g1
  · rw [q1]
  · exact absurd q1 h2
  · exact absurd q1 h2
  · exact absurd q1 h2
  · exact absurd q1.symm g2
  · rfl
  · exact absurd ⟨_, g2, g3⟩ h2
  · exact absurd ⟨_, g2, g3⟩ h2
  · exact absurd q1.symm g2
  · exact absurd ⟨_, h2, h3⟩ g2
  · rfl
  · exact absurd g4 h4
  · exact absurd q1.symm g2
  · exact absurd ⟨_, h2, h3⟩ g2
  · exact absurd h4 g4
  · rw [h2] at g2; cases g2; rfl
theorem home_short {h0 : List Nd} {ms : List (List Nd)} {ss : List St} {s : List UInt8} {k : Nat} {frm to : Int} {id : List UInt8} {mean most : Int} {w : WayT} (h : HomeOf h0 ms ss s k frm to id mean most w) (hk : k ≤ s.length) : w.1.length ≤ 5 ∧ w.2.1.length ≤ 5 ∧ w.2.2.2 ≤ s.length := by
  rcases h with ⟨a, e, h1, h2, rfl⟩ | ⟨a, b, e, h1, h2, h3, rfl⟩ | ⟨a, b, h1, h2, h3, rfl⟩ | ⟨a, b, h1, h2, h3, rfl⟩
  · exact ⟨Nat.zero_le _, Nat.zero_le _, hk⟩
  · exact ⟨Nat.zero_le _, Nat.zero_le _, hk⟩
  · exact ⟨Nat.zero_le _, Nat.zero_le _, hk⟩
  · exact ⟨(wayR_short (host_layers h1)).1, (wayR_short (host_layers h1)).2, wayR_pos hk⟩
theorem loose_short {h0 : List Nd} {ms : List (List Nd)} {ss : List St} {s : List UInt8} {k : Nat} {frm number : Int} {h : Hop} {mean most : Int} {w : WayT} (hw : LooseOf h0 ms ss s k frm number h mean most w) (hk : k ≤ s.length) : w.1.length ≤ 5 ∧ w.2.1.length ≤ 5 ∧ w.2.2.2 ≤ s.length := by
  rcases hw with ⟨a, e, h1, h2, rfl⟩ | ⟨a, h1, h2, rfl⟩ | ⟨a, b, ly, h1, h2, h3, h4, rfl⟩ | ⟨a, b, ly, h1, h2, h3, h4, rfl⟩
  · exact ⟨Nat.zero_le _, Nat.zero_le _, hk⟩
  · exact ⟨Nat.zero_le _, Nat.zero_le _, hk⟩
  · exact ⟨Nat.zero_le _, Nat.zero_le _, hk⟩
  · exact ⟨(wayR_short (host_layers h1)).1, (wayR_short (host_layers h1)).2, wayR_pos hk⟩

section
variable {B : Nat} {S R : Ents} {hv mv sv : Value} {h0 : List Nd} {ms : List (List Nd)} {ss : List St}
set_option maxHeartbeats 8000000 in
theorem topoWaysL {frm to number : Int} {s id : List UInt8} {h : Hop} {mean most : Int} (hT : TIn S hv mv sv h0 ms ss) (ht : (h0 :: ms).flatten.length ≤ 1099511627776) (hms : ms.length ≤ 1099511627776) (hss : ss.length ≤ 1099511627776) (hs : s.length ≤ lim) :
    CallWp Try.prog B 4 #[.agg #[hv, mv, sv], .agg #[.int .i64 frm, .int .i64 to, .int .i64 number], .agg (drc s id h mean most).toArray] (fun v _ => v = .bool true) S := by
  obtain ⟨a1, c1, a2, c2, a3, c3, rfl, rfl, rfl⟩ := hT.forms
  refine CallWp.enter (args := [_, _, _]) Try.func4 rfl Try.ntmps4 rfl ?_
  refine Wp.seq (Wp.region ?_)
  refine OWp.step rfl (Step.box rfl rfl rfl ?_); intro L3 hBL3 hLL3
  refine OWp.step rfl (Step.box rfl rfl rfl ?_); intro L4 hBL4 hLL4
  refine OWp.step rfl (Step.box rfl rfl rfl ?_); intro L5 hBL5 hLL5
  refine OWp.evs 1 rfl ?_
  refine OWp.nil ?_
  refine Wp.seq (Wp.region ?_)
  refine OWp.load (.tail _ (.tail _ (.head _))) rfl rfl rfl rfl rfl ?_
  refine OWp.step rfl (Step.call rfl rfl rfl rfl rfl rfl ((copiedC (hT.mono fun _ h => .tail _ (.tail _ (.tail _ h))) ht hms hss ?_)))
  intro hv' mv' sv' M hsub hTo
  have h3 := hsub _ (.tail _ (.tail _ (.head _)))
  have h4 := hsub _ (.tail _ (.head _))
  have h5 := hsub _ (.head _)
  replace hT := hT.mono fun x hx => hsub _ (.tail _ (.tail _ (.tail _ hx)))
  obtain ⟨b1, d1, b2, d2, b3, d3, rfl, rfl, rfl⟩ := hTo.forms
  refine OWp.step rfl (Step.alloc rfl rfl rfl ?_); intro L7 hBL7 hLL7
  refine OWp.step rfl (Step.storeAs 0 ([.slice b1 h0.length d1, .slice b2 ms.length d2, .slice b3 ss.length d3]) rfl rfl rfl rfl rfl (by assumption) rfl (Unfz.zero _) rfl (Nat.le_of_ble_eq_true rfl) rfl rfl ?_)
  refine OWp.nil ?_
  obtain ⟨M0, hM0⟩ : ∃ M0 : Ents, M0 = (L7, cel [.slice b1 h0.length d1, .slice b2 ms.length d2, .slice b3 ss.length d3] 26) :: M := ⟨_, rfl⟩
  have h7 : (L7, cel [.slice b1 h0.length d1, .slice b2 ms.length d2, .slice b3 ss.length d3] 26) ∈ M0 := by rw [hM0]; exact .head _
  have hMM : ∀ x ∈ M, x ∈ M0 := fun x hx => by rw [hM0]; exact .tail _ hx
  replace hT := hT.mono hMM
  replace hTo := hTo.mono hMM
  replace h3 := hMM _ h3
  replace h4 := hMM _ h4
  replace h5 := hMM _ h5
  show Wp _ _ _ _ _ _ _
  refine Wp.weaken (S' := M0) (Env.Sub.refl _) (fun w h => by rw [hM0]; exact h) ?_
  refine Wp.seq (Wp.regionDraw [0, 1, 3, 4, 2, 5, 6, 7] [2, 5] rfl (by decide +kernel) ?_)
  refine DWp.evs 1 rfl ?_
  refine DWp.load h5 rfl rfl rfl rfl rfl rfl rfl ?_
  refine DWp.evs 1 rfl ?_
  refine DWp.load h5 rfl rfl rfl rfl rfl rfl rfl ?_
  refine DWp.step rfl rfl rfl (Step.call rfl rfl rfl rfl rfl rfl ((tapeNew ?_)))
  intro Lx hBx _
  refine ⟨by (repeat (first | refine pr_kept ?_ | refine pr_free ?_ | refine pr_cons (by repeat (first | exact List.Mem.head _ | assumption | exact List.mem_append_left _ (by assumption) | apply List.mem_cons_of_mem | apply List.mem_append_right)) ?_ | exact pr_nil)), ?_⟩
  refine DWp.step rfl rfl rfl (Step.call rfl rfl rfl rfl rfl rfl ((tapeNew ?_)))
  intro Ly hBy _
  refine ⟨by (repeat (first | refine pr_kept ?_ | refine pr_free ?_ | refine pr_cons (by repeat (first | exact List.Mem.head _ | assumption | exact List.mem_append_left _ (by assumption) | apply List.mem_cons_of_mem | apply List.mem_append_right)) ?_ | exact pr_nil)), ?_⟩
  refine DWp.evs 2 rfl ?_
  refine DWp.nil ?_
  refine Wp.seq ?_
  refine Wp.seq (Wp.region ?_)
  refine OWp.evs 3 rfl ?_
  refine OWp.evs 3 rfl ?_
  refine OWp.nil ?_
  refine Wp.cond rfl (fun c => nomatch c) (fun _ => ?_)
  refine Wp.skip ?_
  refine Wp.seqS (α := Nat × Nat) (fun z => [(3, pt L3), (4, pt L4), (5, pt L5), (6, .bool false), (7, pt L7), (8, pt Lx), (9, pt Ly), (10, pt z.1), (11, pt z.2)]) (fun z => rtp z.1 s 0 :: rtp z.2 s 0 :: tp Ly s 0 :: tp Lx s 0 :: M0) (fun z => B ≤ z.1 ∧ B ≤ z.2) ?_ ?_
  · skip
    refine Wp.regionDraw [0, 1, 2, 4, 5, 6, 10, 10, 10, 10] [3, 7] rfl (by decide +kernel) ?_
    refine DWp.evs 1 rfl ?_
    refine DWp.load (.tail _ (.tail _ h5)) rfl rfl rfl rfl rfl rfl rfl ?_
    refine DWp.g rfl rfl rfl rfl (Gives.build rfl rfl) ?_
    refine DWp.evs 1 rfl ?_
    refine DWp.load (.tail _ (.tail _ h5)) rfl rfl rfl rfl rfl rfl rfl ?_
    refine DWp.g rfl rfl rfl rfl (Gives.build rfl rfl) ?_
    refine DWp.forkTo [3, 7] (by decide +kernel) (by simp) ?_
    intro xx hxx
    simp only [List.mem_cons, List.mem_nil_iff, or_false] at hxx
    rcases hxx with rfl | rfl
    · refine ⟨_, [8, 7, 9], rfl, rfl, by decide +kernel, rfl, ?_⟩
      refine (Step.box rfl rfl rfl ?_); intro Lp hBLp hLLp
      refine ⟨by (repeat (first | refine pr_kept ?_ | refine pr_free ?_ | refine pr_cons (by repeat (first | exact List.Mem.head _ | assumption | exact List.mem_append_left _ (by assumption) | apply List.mem_cons_of_mem | apply List.mem_append_right)) ?_ | exact pr_nil)), ?_⟩
      refine DWp.evs 1 rfl ?_
      refine DWp.step rfl rfl rfl (Step.box rfl rfl rfl ?_); intro Lq hBLq hLLq
      refine ⟨by (repeat (first | refine pr_kept ?_ | refine pr_free ?_ | refine pr_cons (by repeat (first | exact List.Mem.head _ | assumption | exact List.mem_append_left _ (by assumption) | apply List.mem_cons_of_mem | apply List.mem_append_right)) ?_ | exact pr_nil)), ?_⟩
      refine DWp.evs 1 rfl ?_
      refine DWp.nil ?_
      exact ⟨(Lp, Lq), ⟨hBLp, hBLq⟩, .cons rfl (.cons rfl (.cons rfl (.cons rfl (.cons rfl (.cons rfl (.cons rfl (.cons rfl (.cons rfl (.nil _))))))))), (show List.Perm (rtp Lq s 0 :: (rtp Lp s 0 :: (tp Ly s 0 :: (tp Lx s 0 :: (M0))))) (rtp Lp s 0 :: (rtp Lq s 0 :: (tp Ly s 0 :: (tp Lx s 0 :: (M0))))) from permBy [[rtp Lq s 0], [rtp Lp s 0], [tp Ly s 0, tp Lx s 0]] (M0) [0, 1, 2] [1, 0, 2] (by decide))⟩
    · refine ⟨_, [3, 8, 9], rfl, rfl, by decide +kernel, rfl, ?_⟩
      refine (Step.box rfl rfl rfl ?_); intro Lq hBLq hLLq
      refine ⟨by (repeat (first | refine pr_kept ?_ | refine pr_free ?_ | refine pr_cons (by repeat (first | exact List.Mem.head _ | assumption | exact List.mem_append_left _ (by assumption) | apply List.mem_cons_of_mem | apply List.mem_append_right)) ?_ | exact pr_nil)), ?_⟩
      refine DWp.step rfl rfl rfl (Step.box rfl rfl rfl ?_); intro Lp hBLp hLLp
      refine ⟨by (repeat (first | refine pr_kept ?_ | refine pr_free ?_ | refine pr_cons (by repeat (first | exact List.Mem.head _ | assumption | exact List.mem_append_left _ (by assumption) | apply List.mem_cons_of_mem | apply List.mem_append_right)) ?_ | exact pr_nil)), ?_⟩
      refine DWp.evs 2 rfl ?_
      refine DWp.nil ?_
      exact ⟨(Lp, Lq), ⟨hBLp, hBLq⟩, .cons rfl (.cons rfl (.cons rfl (.cons rfl (.cons rfl (.cons rfl (.cons rfl (.cons rfl (.cons rfl (.nil _))))))))), (show List.Perm (rtp Lp s 0 :: (rtp Lq s 0 :: (tp Ly s 0 :: (tp Lx s 0 :: (M0))))) (rtp Lp s 0 :: (rtp Lq s 0 :: (tp Ly s 0 :: (tp Lx s 0 :: (M0))))) from permBy [[rtp Lp s 0], [rtp Lq s 0], [tp Ly s 0, tp Lx s 0]] (M0) [0, 1, 2] [0, 1, 2] (by decide))⟩
  rintro ⟨Lp, Lq⟩ ⟨hBp, hBq⟩
  simp only at hBp hBq ⊢
  refine Wp.seq (Wp.region ?_)
  refine OWp.load (.tail _ (.tail _ (.tail _ (.tail _ h7)))) rfl rfl rfl rfl rfl ?_
  refine OWp.evs 2 rfl ?_
  refine OWp.load (.tail _ (.tail _ (.tail _ (.tail _ h4)))) rfl rfl rfl rfl rfl ?_
  refine OWp.evs 1 rfl ?_
  refine OWp.load (.tail _ (.tail _ (.tail _ (.tail _ h4)))) rfl rfl rfl rfl rfl ?_
  refine OWp.evs 1 rfl ?_
  refine OWp.load (.tail _ (.tail _ (.tail _ (.tail _ h5)))) rfl rfl rfl rfl rfl ?_
  refine OWp.evs 1 rfl ?_
  refine OWp.load (.tail _ (.tail _ (.tail _ (.tail _ h5)))) rfl rfl rfl rfl rfl ?_
  refine OWp.step rfl (Step.call rfl rfl rfl rfl rfl rfl (CallWp.focus 3 rfl ((homeC (s := s) (k := 0) (id := id) hBx hs (Nat.zero_le _) (hTo.mono fun _ h => .tail _ (.tail _ (.tail _ h))) ?_))))
  intro w pv qv es1 es2 hw hin
  obtain ⟨hw1, hw2, hw3⟩ := home_short hw (Nat.zero_le _)
  obtain ⟨pa, pc, rfl⟩ := hin.1.reads.form
  obtain ⟨qa, qc, rfl⟩ := hin.2.reads.form
  refine OWp.evs 3 rfl ?_
  refine OWp.step rfl (Step.alloc rfl rfl rfl ?_); intro L12 hBL12 hLL12
  refine OWp.step rfl (Step.storeAs 0 ([.slice pa w.1.length pc, .slice qa w.2.1.length qc]) rfl rfl rfl rfl rfl (by assumption) rfl (Unfz.zero _) rfl (Nat.le_of_ble_eq_true rfl) rfl rfl ?_)
  refine OWp.evs 1 rfl ?_
  refine OWp.nil ?_
  have hcell : ∀ (x : Value), (L12, cel [x] 56) = (L12, cel [x] 56) := fun _ => rfl
  show Wp _ _ _ _ _ _ ((L12, _) :: tp Lx s w.2.2.2 :: (es1 ++ (es2 ++ (rtp Lp s 0 :: rtp Lq s 0 :: tp Ly s 0 :: M0))))
  refine Wp.permS (S' := rtp Lp s 0 :: (rtp Lq s 0 :: tp Ly s 0 :: (L12, cel [.slice pa w.1.length pc, .slice qa w.2.1.length qc] 56) :: tp Lx s w.2.2.2 :: (es1 ++ (es2 ++ M0)))) (permBy [[(L12, cel [.slice pa w.1.length pc, .slice qa w.2.1.length qc] 56), tp Lx s w.2.2.2], es1, es2, [rtp Lp s 0], [rtp Lq s 0], [tp Ly s 0]] M0 [0, 1, 2, 3, 4, 5] [3, 4, 5, 0, 1, 2] (by decide)) ?_
  obtain ⟨M1, hM1⟩ : ∃ M1 : Ents, M1 = tp Lx s w.2.2.2 :: (es1 ++ (es2 ++ M0)) := ⟨_, rfl⟩
  have hx : tp Lx s w.2.2.2 ∈ M1 := by rw [hM1]; exact .head _
  have hr1 : Reads M1 1 (.slice pa w.1.length pc) w.1.length (txt w.1) := hin.1.reads.mono fun x hx => by rw [hM1]; exact .tail _ (List.mem_append_left _ hx)
  have hr2 : Reads M1 5 (.slice qa w.2.1.length qc) w.2.1.length (w.2.1.flatMap Hop.cells) := hin.2.reads.mono fun x hx => by rw [hM1]; exact .tail _ (List.mem_append_right _ (List.mem_append_left _ hx))
  have hMM1 : ∀ x ∈ M0, x ∈ M1 := fun x hx => by rw [hM1]; exact .tail _ (List.mem_append_right _ (List.mem_append_right _ hx))
  refine Wp.weaken (S' := rtp Lp s 0 :: (rtp Lq s 0 :: tp Ly s 0 :: (L12, cel [.slice pa w.1.length pc, .slice qa w.2.1.length qc] 56) :: M1)) (Env.Sub.refl _) (fun w h => by rw [hM1]; exact h) ?_
  refine Wp.seq (Wp.region ?_)
  refine OWp.load (.tail _ (.tail _ (.tail _ (.tail _ (hMM1 _ h3))))) rfl rfl rfl rfl rfl ?_
  refine OWp.evs 2 rfl ?_
  refine OWp.load (.tail _ (.tail _ (.tail _ (.tail _ (hMM1 _ h4))))) rfl rfl rfl rfl rfl ?_
  refine OWp.evs 1 rfl ?_
  refine OWp.load (.tail _ (.tail _ (.tail _ (.tail _ (hMM1 _ h4))))) rfl rfl rfl rfl rfl ?_
  refine OWp.evs 1 rfl ?_
  refine OWp.load (.tail _ (.tail _ (.tail _ (.tail _ (hMM1 _ h5))))) rfl rfl rfl rfl rfl ?_
  refine OWp.evs 1 rfl ?_
  refine OWp.load (.tail _ (.tail _ (.tail _ (.tail _ (hMM1 _ h5))))) rfl rfl rfl rfl rfl ?_
  refine OWp.step rfl (Step.call rfl rfl rfl rfl rfl rfl ((rhomeC (s := s) (k := 0) (id := id) hBp hs (Nat.zero_le _) (hT.mono fun _ h => .tail _ (.tail _ (.tail _ (hMM1 _ h)))) ht ?_)))
  intro w' pv' qv' fs1 fs2 hw' hin'
  obtain rfl := home_one hw hw'
  obtain ⟨pb, pd, rfl⟩ := hin'.1.reads.form
  obtain ⟨qb, qd, rfl⟩ := hin'.2.reads.form
  refine OWp.evs 3 rfl ?_
  refine OWp.step rfl (Step.alloc rfl rfl rfl ?_); intro L14 hBL14 hLL14
  refine OWp.step rfl (Step.storeAs 0 ([.slice pb w.1.length pd, .slice qb w.2.1.length qd]) rfl rfl rfl rfl rfl (by assumption) rfl (Unfz.zero _) rfl (Nat.le_of_ble_eq_true rfl) rfl rfl ?_)
  refine OWp.evs 1 rfl ?_
  refine OWp.nil ?_
  show Wp _ _ _ _ _ _ ((L14, _) :: rtp Lp s w.2.2.2 :: (fs1 ++ (fs2 ++ (rtp Lq s 0 :: tp Ly s 0 :: (L12, _) :: M1))))
  refine Wp.permS (S' := tp Ly s 0 :: rtp Lq s 0 :: (L12, cel [.slice pa w.1.length pc, .slice qa w.2.1.length qc] 56) :: (L14, cel [.slice pb w.1.length pd, .slice qb w.2.1.length qd] 56) :: rtp Lp s w.2.2.2 :: (fs1 ++ (fs2 ++ M1))) (permBy [[(L14, cel [.slice pb w.1.length pd, .slice qb w.2.1.length qd] 56)], [rtp Lp s w.2.2.2], fs1, fs2, [rtp Lq s 0], [tp Ly s 0], [(L12, cel [.slice pa w.1.length pc, .slice qa w.2.1.length qc] 56)]] M1 [0, 1, 2, 3, 4, 5, 6] [5, 4, 6, 0, 1, 2, 3] (by decide)) ?_
  obtain ⟨M2, hM2⟩ : ∃ M2 : Ents, M2 = rtp Lp s w.2.2.2 :: (fs1 ++ (fs2 ++ M1)) := ⟨_, rfl⟩
  have hp : rtp Lp s w.2.2.2 ∈ M2 := by rw [hM2]; exact .head _
  have hr3 : Reads M2 1 (.slice pb w.1.length pd) w.1.length (txt w.1) := hin'.1.reads.mono fun x hx => by rw [hM2]; exact .tail _ (List.mem_append_left _ hx)
  have hr4 : Reads M2 5 (.slice qb w.2.1.length qd) w.2.1.length (w.2.1.flatMap Hop.cells) := hin'.2.reads.mono fun x hx => by rw [hM2]; exact .tail _ (List.mem_append_right _ (List.mem_append_left _ hx))
  have hMM2 : ∀ x ∈ M1, x ∈ M2 := fun x hx => by rw [hM2]; exact .tail _ (List.mem_append_right _ (List.mem_append_right _ hx))
  replace hx := hMM2 _ hx
  replace hr1 := hr1.mono hMM2
  replace hr2 := hr2.mono hMM2
  replace h3 := hMM2 _ (hMM1 _ h3)
  replace h4 := hMM2 _ (hMM1 _ h4)
  replace h5 := hMM2 _ (hMM1 _ h5)
  replace h7 := hMM2 _ (hMM1 _ h7)
  replace hT := hT.mono fun x hx => hMM2 _ (hMM1 _ hx)
  replace hTo := hTo.mono fun x hx => hMM2 _ (hMM1 _ hx)
  refine Wp.weaken (S' := tp Ly s 0 :: rtp Lq s 0 :: (L12, cel [.slice pa w.1.length pc, .slice qa w.2.1.length qc] 56) :: (L14, cel [.slice pb w.1.length pd, .slice qb w.2.1.length qd] 56) :: M2) (Env.Sub.refl _) (fun w h => by rw [hM2]; exact h) ?_
  refine Wp.seq ?_
  refine Wp.seq (Wp.regionDraw [0, 1, 2, 3, 4, 5, 6, 7, 8, 9, 10, 11, 12, 14, 15, 16, 17, 18, 13, 19, 20] [2, 13] rfl (by decide +kernel) ?_)
  refine DWp.load (.tail _ (.tail _ (.head _))) rfl rfl rfl rfl rfl rfl rfl ?_
  refine DWp.load (.tail _ (.tail _ (.tail _ (.head _)))) rfl rfl rfl rfl rfl rfl rfl ?_
  refine DWp.stepGrow rfl rfl rfl (Step.call rfl rfl rfl rfl rfl rfl ((sameWayC (l := w.1) (w := w.2.1) (hr1.mono fun _ h => .tail _ (.tail _ (.tail _ (.tail _ h)))) (hr3.mono fun _ h => .tail _ (.tail _ (.tail _ (.tail _ h)))) (hr2.mono fun _ h => .tail _ (.tail _ (.tail _ (.tail _ h)))) (hr4.mono fun _ h => .tail _ (.tail _ (.tail _ (.tail _ h)))) (by unfold lim; omega) (by unfold lim; omega) ?_)))
  refine ⟨fun _ hy => hy, ?_⟩
  refine DWp.evs 2 rfl ?_
  refine DWp.evs 5 rfl ?_
  refine DWp.part 75 rfl (fun cc2 => absurd (ndT cc2) (by exact fun h => h rfl)) (fun cc2 => ?_)
  have cc2 := ndF cc2
  refine DWp.evs 6 rfl ?_
  refine DWp.load (.tail _ (.tail _ (.tail _ (.tail _ hp)))) rfl rfl rfl rfl rfl rfl rfl ?_
  refine DWp.evs 1 rfl ?_
  refine DWp.stepGrow rfl rfl rfl (Step.call rfl rfl rfl rfl rfl rfl ((left (s := s) (k := w.2.2.2) (.tail _ (.tail _ (.tail _ (.tail _ hx)))) hw3 hs ?_)))
  refine ⟨fun _ hy => hy, ?_⟩
  refine DWp.evs 2 rfl ?_
  refine DWp.nil ?_
  refine Wp.cond rfl (fun cc3 => absurd (ndT cc3) (by rw [List.length_drop]; exact fun h => h rfl)) (fun cc3 => ?_)
  have cc3 := ndF cc3
  refine Wp.skip ?_
  refine Wp.seq (Wp.region ?_)
  refine OWp.load (.tail _ (.tail _ (.tail _ (.tail _ h7)))) rfl rfl rfl rfl rfl ?_
  refine OWp.evs 2 rfl ?_
  refine OWp.load (.tail _ (.tail _ (.tail _ (.tail _ h4)))) rfl rfl rfl rfl rfl ?_
  refine OWp.evs 1 rfl ?_
  refine OWp.load (.tail _ (.tail _ (.tail _ (.tail _ h4)))) rfl rfl rfl rfl rfl ?_
  refine OWp.evs 1 rfl ?_
  refine OWp.load (.tail _ (.tail _ (.tail _ (.tail _ h5)))) rfl rfl rfl rfl rfl ?_
  refine OWp.evs 1 rfl ?_
  refine OWp.load (.tail _ (.tail _ (.tail _ (.tail _ h5)))) rfl rfl rfl rfl rfl ?_
  refine OWp.step rfl (Step.call rfl rfl rfl rfl rfl rfl ((looseC (s := s) (k := 0) (h := h) hBy hs (Nat.zero_le _) (hTo.mono fun _ h => .tail _ (.tail _ (.tail _ h))) ?_)))
  intro u pu qu gs1 gs2 hu hun
  obtain ⟨hu1, hu2, hu3⟩ := loose_short hu (Nat.zero_le _)
  obtain ⟨pe, pf, rfl⟩ := hun.1.reads.form
  obtain ⟨qe, qf, rfl⟩ := hun.2.reads.form
  refine OWp.evs 3 rfl ?_
  refine OWp.step rfl (Step.permS (show List.Perm (tp Ly s u.2.2.2 :: (gs1 ++ (gs2 ++ (rtp Lq s 0 :: (L12, cel [.slice pa w.1.length pc, .slice qa w.2.1.length qc] 56) :: (L14, cel [.slice pb w.1.length pd, .slice qb w.2.1.length qd] 56) :: M2)))) ((L12, cel [.slice pa w.1.length pc, .slice qa w.2.1.length qc] 56) :: rtp Lq s 0 :: (L14, cel [.slice pb w.1.length pd, .slice qb w.2.1.length qd] 56) :: tp Ly s u.2.2.2 :: (gs1 ++ (gs2 ++ M2))) from permBy [[tp Ly s u.2.2.2], gs1, gs2, [rtp Lq s 0], [(L12, cel [.slice pa w.1.length pc, .slice qa w.2.1.length qc] 56)], [(L14, cel [.slice pb w.1.length pd, .slice qb w.2.1.length qd] 56)]] M2 [0, 1, 2, 3, 4, 5] [4, 3, 5, 0, 1, 2] (by decide)) (Step.storeAs 0 [.slice pe u.1.length pf, .slice qe u.2.1.length qf] rfl rfl rfl rfl rfl hBL12 rfl (Unfz.zero _) rfl (Nat.le_of_ble_eq_true rfl) rfl rfl ?_))
  refine OWp.evs 1 rfl ?_
  refine OWp.nil ?_
  obtain ⟨M3, hM3⟩ : ∃ M3 : Ents, M3 = tp Ly s u.2.2.2 :: (gs1 ++ (gs2 ++ M2)) := ⟨_, rfl⟩
  have hy : tp Ly s u.2.2.2 ∈ M3 := by rw [hM3]; exact .head _
  have hr5 : Reads M3 1 (.slice pe u.1.length pf) u.1.length (txt u.1) := hun.1.reads.mono fun x hx => by rw [hM3]; exact .tail _ (List.mem_append_left _ hx)
  have hr6 : Reads M3 5 (.slice qe u.2.1.length qf) u.2.1.length (u.2.1.flatMap Hop.cells) := hun.2.reads.mono fun x hx => by rw [hM3]; exact .tail _ (List.mem_append_right _ (List.mem_append_left _ hx))
  have hMM3 : ∀ x ∈ M2, x ∈ M3 := fun x hx => by rw [hM3]; exact .tail _ (List.mem_append_right _ (List.mem_append_right _ hx))
  replace h3 := hMM3 _ h3
  replace h4 := hMM3 _ h4
  replace h5 := hMM3 _ h5
  replace h7 := hMM3 _ h7
  replace hT := hT.mono hMM3
  replace hTo := hTo.mono hMM3
  show Wp _ _ _ _ _ _ _
  refine Wp.weaken (S' := (L12, cel [.slice pe u.1.length pf, .slice qe u.2.1.length qf] 56) :: rtp Lq s 0 :: (L14, cel [.slice pb w.1.length pd, .slice qb w.2.1.length qd] 56) :: M3) (Env.Sub.refl _) (fun w h => by rw [hM3]; exact h) ?_
  refine Wp.seq (Wp.region ?_)
  refine OWp.load (.tail _ (.tail _ (.tail _ h3))) rfl rfl rfl rfl rfl ?_
  refine OWp.evs 2 rfl ?_
  refine OWp.load (.tail _ (.tail _ (.tail _ h4))) rfl rfl rfl rfl rfl ?_
  refine OWp.evs 1 rfl ?_
  refine OWp.load (.tail _ (.tail _ (.tail _ h4))) rfl rfl rfl rfl rfl ?_
  refine OWp.evs 1 rfl ?_
  refine OWp.load (.tail _ (.tail _ (.tail _ h5))) rfl rfl rfl rfl rfl ?_
  refine OWp.evs 1 rfl ?_
  refine OWp.load (.tail _ (.tail _ (.tail _ h5))) rfl rfl rfl rfl rfl ?_
  refine OWp.step rfl (Step.call rfl rfl rfl rfl rfl rfl (CallWp.focus 1 rfl ((rlooseC (s := s) (k := 0) (h := h) hBq hs (Nat.zero_le _) (hT.mono fun _ h => .tail _ (.tail _ h)) ht ?_))))
  intro u' pu' qu' ks1 ks2 hu' hun'
  obtain rfl := loose_one hu hu'
  obtain ⟨pg, ph, rfl⟩ := hun'.1.reads.form
  obtain ⟨qg, qh, rfl⟩ := hun'.2.reads.form
  refine OWp.evs 3 rfl ?_
  refine OWp.step rfl (Step.permS (show List.Perm (rtp Lq s u.2.2.2 :: (ks1 ++ (ks2 ++ ((L12, cel [.slice pe u.1.length pf, .slice qe u.2.1.length qf] 56) :: (L14, cel [.slice pb w.1.length pd, .slice qb w.2.1.length qd] 56) :: M3)))) ((L14, cel [.slice pb w.1.length pd, .slice qb w.2.1.length qd] 56) :: (L12, cel [.slice pe u.1.length pf, .slice qe u.2.1.length qf] 56) :: rtp Lq s u.2.2.2 :: (ks1 ++ (ks2 ++ M3))) from permBy [[rtp Lq s u.2.2.2], ks1, ks2, [(L12, cel [.slice pe u.1.length pf, .slice qe u.2.1.length qf] 56)], [(L14, cel [.slice pb w.1.length pd, .slice qb w.2.1.length qd] 56)]] M3 [0, 1, 2, 3, 4] [4, 3, 0, 1, 2] (by decide)) (Step.storeAs 0 [.slice pg u.1.length ph, .slice qg u.2.1.length qh] rfl rfl rfl rfl rfl hBL14 rfl (Unfz.zero _) rfl (Nat.le_of_ble_eq_true rfl) rfl rfl ?_))
  refine OWp.evs 1 rfl ?_
  refine OWp.nil ?_
  obtain ⟨M4, hM4⟩ : ∃ M4 : Ents, M4 = (L14, cel [.slice pg u.1.length ph, .slice qg u.2.1.length qh] 56) :: (L12, cel [.slice pe u.1.length pf, .slice qe u.2.1.length qf] 56) :: rtp Lq s u.2.2.2 :: (ks1 ++ (ks2 ++ M3)) := ⟨_, rfl⟩
  have h14 : (L14, cel [.slice pg u.1.length ph, .slice qg u.2.1.length qh] 56) ∈ M4 := by rw [hM4]; exact .head _
  have h12 : (L12, cel [.slice pe u.1.length pf, .slice qe u.2.1.length qf] 56) ∈ M4 := by rw [hM4]; exact .tail _ (.head _)
  have hq : rtp Lq s u.2.2.2 ∈ M4 := by rw [hM4]; exact .tail _ (.tail _ (.head _))
  have hr7 : Reads M4 1 (.slice pg u.1.length ph) u.1.length (txt u.1) := hun'.1.reads.mono fun x hx => by rw [hM4]; exact .tail _ (.tail _ (.tail _ (List.mem_append_left _ hx)))
  have hr8 : Reads M4 5 (.slice qg u.2.1.length qh) u.2.1.length (u.2.1.flatMap Hop.cells) := hun'.2.reads.mono fun x hx => by rw [hM4]; exact .tail _ (.tail _ (.tail _ (List.mem_append_right _ (List.mem_append_left _ hx))))
  have hMM4 : ∀ x ∈ M3, x ∈ M4 := fun x hx => by rw [hM4]; exact .tail _ (.tail _ (.tail _ (List.mem_append_right _ (List.mem_append_right _ hx))))
  replace h3 := hMM4 _ h3
  replace h7 := hMM4 _ h7
  replace hy := hMM4 _ hy
  replace hr5 := hr5.mono hMM4
  replace hr6 := hr6.mono hMM4
  replace hT := hT.mono hMM4
  replace hTo := hTo.mono hMM4
  show Wp _ _ _ _ _ _ _
  refine Wp.weaken (S' := M4) (Env.Sub.refl _) (fun w h => by rw [hM4]; exact h) ?_
  refine Wp.seq (Wp.regionDraw [0, 1, 2, 3, 4, 5, 6, 7, 8, 9, 10, 11, 13, 14, 15, 16, 17, 12, 18, 19, 20, 21, 22, 23, 24, 25, 26, 27, 28] [2, 12, 23, 26] rfl (by decide +kernel) ?_)
  refine DWp.load h12 rfl rfl rfl rfl rfl rfl rfl ?_
  refine DWp.load h14 rfl rfl rfl rfl rfl rfl rfl ?_
  refine DWp.stepGrow rfl rfl rfl (Step.call rfl rfl rfl rfl rfl rfl ((sameWayC (l := u.1) (w := u.2.1) hr5 hr7 hr6 hr8 (by unfold lim; omega) (by unfold lim; omega) ?_)))
  refine ⟨fun _ hy => hy, ?_⟩
  refine DWp.evs 1 rfl ?_
  refine DWp.evs 5 rfl ?_
  refine DWp.part 123 rfl (fun cc4 => ?_) (fun cc4 => absurd (of_decide_eq_false cc4) (by exact fun h => h rfl))
  have cc4 := of_decide_eq_true cc4
  refine DWp.evs 6 rfl ?_
  refine DWp.load hq rfl rfl rfl rfl rfl rfl rfl ?_
  refine DWp.evs 1 rfl ?_
  refine DWp.stepGrow rfl rfl rfl (Step.call rfl rfl rfl rfl rfl rfl ((left (s := s) (k := u.2.2.2) hy hu3 hs ?_)))
  refine ⟨fun _ hy => hy, ?_⟩
  refine DWp.evs 3 rfl ?_
  refine DWp.part 135 rfl (fun cc5 => ?_) (fun cc5 => absurd (of_decide_eq_false cc5) (by rw [List.length_drop]; exact fun h => h rfl))
  have cc5 := of_decide_eq_true cc5
  refine DWp.load h7 rfl rfl rfl rfl rfl rfl rfl ?_
  refine DWp.load h3 rfl rfl rfl rfl rfl rfl rfl ?_
  refine DWp.stepGrow rfl rfl rfl (Step.call rfl rfl rfl rfl rfl rfl ((sameC hTo hT ?_)))
  refine ⟨fun _ hy => hy, ?_⟩
  refine DWp.evs 2 rfl ?_
  refine DWp.step rfl rfl rfl (Step.call rfl rfl rfl rfl rfl rfl ((worksC ?_)))
  intro S9 hS9
  refine ⟨by (repeat (first | refine pr_kept ?_ | refine pr_free ?_ | refine pr_cons (hS9 _ (by repeat (first | exact List.Mem.head _ | assumption | exact List.mem_append_left _ (by assumption) | apply List.mem_cons_of_mem | apply List.mem_append_right))) ?_ | exact pr_nil)), ?_⟩
  refine DWp.evs 2 rfl ?_
  refine DWp.nil ?_
  refine Wp.ret ⟨trivial, _, ⟨_, _, rfl, rfl, rfl⟩, ?_⟩
  rfl
end
theorem topoWaysW {a0 a1 a2 : Array Value} {S : Ents} {B : Nat} (h0 : RdB Try.prog S 26 a0.toList 1048576) (h1 : RdB Try.prog S 28 a1.toList 1048576) (h2 : RdB Try.prog S 47 a2.toList 1048576) :
    CallWp Try.prog B 4 #[.agg a0, .agg a1, .agg a2] (fun v _ => v = .bool true) S := by
  obtain ⟨hv, mv, sv, h0, ms, ss, e0, hT, ht, hms, hss⟩ := rdTownB h0 (Nat.le_refl _)
  obtain ⟨a, b, c, e1⟩ := rdAsk h1.toRd
  obtain ⟨s, id, h, mean, most, e2, hs⟩ := rdDraw h2.toRd
  have e0' : a0 = #[hv, mv, sv] := by rw [← Array.toArray_toList (xs := a0), e0]
  have e1' : a1 = #[.int .i64 a, .int .i64 b, .int .i64 c] := by rw [← Array.toArray_toList (xs := a1), e1]
  have e2' : a2 = (drc s id h mean most).toArray := by rw [← Array.toArray_toList (xs := a2), e2]
  subst e0' e1' e2'
  exact topoWaysL hT ht hms hss hs
end Go.Proofs.C
