/- What functions of the given program do, one after the other, told by that layer. -/
import Derived.Test.YtnjgekonoladfaaWWheelF
namespace Go.Proofs.E
open Go.Lg Go.Whl
set_option maxRecDepth 100000

theorem lev_self (a : Nat) : lev a a = 0 := by
  rcases Nat.eq_zero_or_pos (lev a a) with h | h
  · exact h
  · exact absurd rfl (levF_at (now := a) (a := a) (k := 6) h)
theorem slot_due {now : Nat} {M : List T} (hn : now < most) (hf : Fit now M) : slot now M 0 (dig now 0) = M.filter (·.due == now) := by
  unfold slot
  apply List.filter_congr
  intro t ht
  rw [Bool.eq_iff_iff]
  simp only [Bool.and_eq_true, beq_iff_eq]
  constructor
  · rintro ⟨h1, h2⟩
    have h3 := lev_zero_dig hn (hf t ht).2 h1
    unfold dig at h2
    simp only [Nat.pow_zero, Nat.div_one] at h2
    omega
  · intro h
    rw [h]
    exact ⟨lev_self now, rfl⟩
theorem mem_tabM {now : Nat} {M : List T} {t : T} (h : t ∈ M) : t ∈ tabM now M (slotAt now t.due) := by
  unfold slotAt
  rw [tabM_at _ _ (dig_lt _ _)]
  exact mem_slot.2 ⟨h, rfl, rfl⟩
theorem tabM_filter (now : Nat) (M : List T) (p : T → Bool) (j : Nat) : tabM now (M.filter p) j = (tabM now M j).filter p := by
  unfold tabM slot
  rw [List.filter_filter, List.filter_filter]
  apply List.filter_congr
  intro t _
  exact Bool.and_comm _ _
theorem tabM_cut {now : Nat} {M : List T} {p : T → Bool} {j0 : Nat} (h : ∀ t ∈ M, p t = false → t ∈ tabM now M j0) (hd : j0 = 64 * (j0 / 64) + j0 % 64) : tabM now (M.filter p) = upd (tabM now M) j0 ((tabM now M j0).filter p) := by
  funext j
  rw [tabM_filter]
  by_cases e : j = j0
  · subst e; rw [upd_same]
  · rw [upd_ne _ _ e, List.filter_eq_self]
    intro t ht
    by_cases hp : p t = false
    · exfalso
      have h1 := mem_slot.1 (h t (tabM_in ht) hp)
      have h2 := mem_slot.1 ht
      apply e
      have e1 : j / 64 = j0 / 64 := h2.2.1.symm.trans h1.2.1
      have e2 : j % 64 = j0 % 64 := by
        have h3 := h2.2.2
        rw [e1] at h3
        exact h3.symm.trans h1.2.2
      omega
    · simpa using hp
theorem filter_not_len {α : Type} (p : α → Bool) : ∀ l : List α, (l.filter p).length + (l.filter fun t => !p t).length = l.length
  | [] => rfl
  | a :: l => by
    have ih := filter_not_len p l
    rw [List.filter_cons, List.filter_cons]
    cases p a
    · simp; omega
    · simp; omega
theorem due_order {now : Nat} {M : List T} (hn : M.Pairwise fun a b => a.no < b.no) (hs : ∀ t ∈ M, Small t) : InOrder (M.filter (·.due == now)) := by
  refine ⟨fun i j hi hj hij => ?_, fun t ht => hs t (List.mem_filter.1 ht).1⟩
  have h1 := List.pairwise_iff_getElem.1 (hn.filter (·.due == now)) i j hi hj hij
  have h2 := (List.mem_filter.1 (List.getElem_mem hi)).2
  have h3 := (List.mem_filter.1 (List.getElem_mem hj)).2
  simp only [beq_iff_eq] at h2 h3
  unfold ordI
  rw [if_pos (by rw [h2, h3])]
  omega
theorem erase_at {l : List T} (hn : l.Pairwise fun a b => a.no < b.no) {i : Nat} (hi : i < l.length) {n : Int} (h : (l[i].no : Int) = n) : l.take i ++ l.drop (i + 1) = l.filter fun t => decide ((t.no : Int) ≠ n) := by
  have e : l = l.take i ++ l[i] :: l.drop (i + 1) := by rw [← List.drop_eq_getElem_cons hi, List.take_append_drop]
  rw [e] at hn
  obtain ⟨h1, h2, h3⟩ := List.pairwise_append.1 hn
  obtain ⟨h4, _⟩ := List.pairwise_cons.1 h2
  conv => rhs; rw [e]
  rw [List.filter_append, List.filter_cons_of_neg (by simp [h])]
  rw [List.filter_eq_self.2, List.filter_eq_self.2]
  · intro t ht
    have := h4 t ht
    simp; omega
  · intro t ht
    have := h3 t ht l[i] List.mem_cons_self
    simp; omega
theorem nos_tab {now : Nat} {M : List T} (h : M.Pairwise fun a b => a.no < b.no) (j : Nat) : (tabM now M j).Pairwise fun a b => a.no < b.no := h.filter _
theorem nos_same {l : List T} (hn : l.Pairwise fun a b => a.no < b.no) {a b : T} (ha : a ∈ l) (hb : b ∈ l) : a = b ∨ a.no ≠ b.no := by
  obtain ⟨i, hi, rfl⟩ := List.mem_iff_getElem.1 ha
  obtain ⟨j, hj, rfl⟩ := List.mem_iff_getElem.1 hb
  rcases Nat.lt_trichotomy i j with h | h | h
  · have := List.pairwise_iff_getElem.1 hn i j hi hj h; right; omega
  · subst h; exact .inl rfl
  · have := List.pairwise_iff_getElem.1 hn j i hj hi h; right; omega
theorem erase_len {l : List T} (hn : l.Pairwise fun a b => a.no < b.no) {t : T} (ht : t ∈ l) {n : Int} (h : (t.no : Int) = n) : (l.filter fun t => decide ((t.no : Int) ≠ n)).length = l.length - 1 := by
  obtain ⟨i, hi, rfl⟩ := List.mem_iff_getElem.1 ht
  rw [← erase_at hn hi h, List.length_append, List.length_take, List.length_drop]
  omega
theorem WOk.filter {B : Nat} {M : List T} {now put : Nat} {v : Nat → Value} {es : Nat → Ents} (h : WOk B M now put v es) {p : T → Bool} {v' : Nat → Value} {es' : Nat → Ents} (hs : SlotsOk B (tabM now (M.filter p)) v' es') : WOk B (M.filter p) now put v' es' :=
  ⟨hs, h.time, fun t ht => h.fit t (List.mem_filter.1 ht).1, h.nos.filter _, fun t ht => h.low t (List.mem_filter.1 ht).1, Nat.le_trans (List.length_filter_le _ _) h.len⟩

attribute [local irreducible] wv flatE tabM slotAt
section
variable {B : Nat} {S R : Ents} {Q : Value → Ents → Prop}

set_option maxHeartbeats 1000000 in
theorem dueC {p now put : Nat} {M : List T} {v : Nat → Value} {es : Nat → Ents} (hB : B ≤ p) (hw : WOk B M now put v es) (hp : put ≤ 1099511627776)
    (H : ∀ v' es' la lc de, WOk B (M.filter fun t => !(t.due == now)) now put v' es' → Reads de 3 (.slice la (M.filter (·.due == now)).length lc) (M.filter (·.due == now)).length (tcs (M.filter (·.due == now))) →
      Q (.slice la (M.filter (·.due == now)).length lc) (wE p v' now put (M.filter fun t => !(t.due == now)).length :: (flatE es' 448 ++ (de ++ R)))) :
    CallWp Try.prog B 27 #[pt p] Q (wE p v now put M.length :: (flatE es 448 ++ R)) := by
  have hn := far_most hw.time
  have hdn := dig_lt now 0
  obtain ⟨j0, hj0⟩ : ∃ j0, j0 = dig now 0 := ⟨_, rfl⟩
  rw [← hj0] at hdn
  have hj : j0 < 448 := by omega
  have hsl : tabM now M j0 = M.filter (·.due == now) := by
    rw [← slot_due hn hw.fit', ← hj0, ← tabM_at now M hdn]; congr 1; omega
  have hl := (hw.slots j0 hj).reads
  obtain ⟨la, lc, hv⟩ := hl.form
  have hcut := tabM_cut (now := now) (M := M) (p := fun t => !(t.due == now)) (j0 := j0) (fun t ht h => by rw [hsl]; exact List.mem_filter.2 ⟨ht, by simpa using h⟩) (by omega)
  rw [hsl] at hl hv hcut
  rw [show (M.filter (·.due == now)).filter (fun t => !(t.due == now)) = [] by
    rw [List.filter_eq_nil_iff]; intro t ht; have := (List.mem_filter.1 ht).2; simpa using this] at hcut
  have hlen := filter_not_len (fun t : T => t.due == now) M
  have hml := hw.len
  have hord := due_order (now := now) hw.nos (hw.small hp)
  obtain ⟨l, hll⟩ : ∃ l, l = M.filter (·.due == now) := ⟨_, rfl⟩
  rw [← hll] at hl hv hord hlen H
  rw [hv] at hl
  refine subRet ?_
  refine CallWp.enter (args := [_]) Try.func27 rfl Try.ntmps27 rfl ?_
  refine Wp.seq (Wp.region ?_)
  refine OWp.evs 1 rfl ?_
  refine OWp.nil ?_
  refine Wp.seq (Wp.regionDraw [0, 1, 2, 3, 4, 6, 7, 8, 5, 9, 10] [5] rfl (by decide +kernel) ?_)
  refine DWp.evs 4 rfl ?_
  refine DWp.load (.head _) rfl rfl rfl rfl rfl rfl (wv_now rfl) ?_
  refine DWp.evs 2 rfl ?_
  refine DWp.g rfl rfl rfl rfl (Gives.indexAddrArr (0) rfl rfl rfl rfl rfl rfl (by omega)) ?_
  refine DWp.stepGrow rfl rfl rfl (Step.call rfl rfl rfl rfl rfl rfl ((digitC rfl rfl hn (Nat.zero_le _) ?_)))
  refine ⟨fun _ hy => hy, ?_⟩
  rw [← hj0]
  refine DWp.g rfl rfl rfl rfl (Gives.indexAddrArr (j0) rfl rfl rfl rfl rfl rfl (by omega)) ?_
  refine DWp.evs 1 rfl ?_
  refine DWp.nil ?_
  refine Wp.seq (Wp.region ?_)
  refine OWp.evs 2 rfl ?_
  refine OWp.load (.head _) rfl rfl rfl rfl ((wv_slot hj (by show 0 + 0 + 0 * 64 + j0 * 1 = j0; omega)).trans (congrArg some hv)) ?_
  refine OWp.evs 1 rfl ?_
  refine OWp.nil ?_
  refine Wp.seq (Wp.region ?_)
  refine OWp.evs 2 rfl ?_
  refine OWp.step rfl (Step.storeAs 0 (wv (upd v j0 (.slice none 0 0)) now put M.length) rfl rfl rfl rfl rfl hB rfl (Unfz.zero _) rfl (by rw [wv_len]; show 0 + 0 + 0 * 64 + j0 * 1 + 1 ≤ 451; omega) (wv_set_slot hj (by show 0 + 0 + 0 * 64 + j0 * 1 = j0; omega)) rfl ?_)
  refine OWp.nil ?_
  refine Wp.seq (Wp.region ?_)
  refine OWp.evs 3 rfl ?_
  refine OWp.load (.head _) rfl rfl rfl rfl (wv_many rfl) ?_
  refine OWp.evs 5 rfl ?_
  refine OWp.step rfl (Step.storeAs 0 (wv (upd v j0 (.slice none 0 0)) now put (M.filter fun t => !(t.due == now)).length) rfl rfl rfl rfl rfl hB rfl (Unfz.zero _) rfl (by rw [wv_len]; show 0 + 450 + 1 ≤ 451; decide) (by rw [show IntKind.i64.wrap ((M.length : Int) - (l.length : Int)) = (((M.filter fun t => !(t.due == now)).length : Nat) : Int) by rw [i64_id] <;> omega]; exact wv_set_many rfl) rfl ?_)
  refine OWp.nil ?_
  refine Wp.seq (Wp.region ?_)
  refine OWp.evs 1 rfl ?_
  refine OWp.step rfl (Step.call rfl rfl rfl rfl rfl rfl ((sortC (hl.mono fun x hx => .tail _ (List.mem_append_left _ (flatE_mem hx hj))) hord (by omega) ?_)))
  refine OWp.nil ?_
  refine Wp.seq (Wp.region ?_)
  refine OWp.evs 2 rfl ?_
  refine OWp.nil ?_
  refine Wp.ret ⟨trivial, _, ⟨_, _, rfl, rfl, rfl⟩, ?_⟩
  refine ⟨_, _, (open2 hj _ _).trans (.cons _ (List.perm_append_comm_assoc _ _ _)), .refl _, ?_⟩
  refine H _ _ _ _ _ (hw.filter ?_) hl
  rw [hcut]
  exact hw.slots.upd (Own.nil _ _ _)
theorem index2C {l : List T} {va : Option Addr} {vc L : Nat} {number : Int} (hm : (L, cel [.int .i64 number] 3) ∈ S) (hl : Reads S 3 (.slice va l.length vc) l.length (tcs l)) (hs : l.length ≤ 60000)
    (H : ∀ zi : Int, ((∃ i : Nat, ∃ h : i < l.length, zi = (i : Int) ∧ (l[i].no : Int) = number) ∨ zi = -1 ∧ ∀ t ∈ l, (t.no : Int) ≠ number) → Q (.int .i64 zi) S) :
    CallWp Try.prog B 28 #[.slice va l.length vc, isV L] Q S :=
  indexC hm hl hs (fun i hi h => H i (.inl ⟨i, hi, rfl, h⟩)) (fun h => H (-1) (.inr ⟨rfl, h⟩))

set_option maxHeartbeats 2000000 in
theorem cancelC {p now put : Nat} {M : List T} {v : Nat → Value} {es : Nat → Ents} {number : Int} (hB : B ≤ p) (hw : WOk B M now put v es)
    (H0 : ∀ t ∈ M, (t.no : Int) = number → ∀ v' es', WOk B (M.filter fun t => decide ((t.no : Int) ≠ number)) now put v' es' →
      Q (.int .i64 0) (wE p v' now put (M.filter fun t => decide ((t.no : Int) ≠ number)).length :: (flatE es' 448 ++ R)))
    (H5 : (∀ t ∈ M, (t.no : Int) ≠ number) → Q (.int .i64 5) (wE p v now put M.length :: (flatE es 448 ++ R))) :
    CallWp Try.prog B 17 #[pt p, .int .i64 number] Q (wE p v now put M.length :: (flatE es 448 ++ R)) := by
  have hml := hw.len
  refine subRet ?_
  refine CallWp.enter (args := [_, _]) Try.func17 rfl Try.ntmps17 rfl ?_
  refine Wp.seq (Wp.region ?_)
  refine OWp.step rfl (Step.box rfl rfl rfl ?_); intro L3 hBL3 hLL3
  refine OWp.evs 1 rfl ?_
  refine OWp.nil ?_
  refine Wp.seq ?_
  refine Wp.seq (Wp.region ?_)
  refine OWp.evs 1 rfl ?_
  refine OWp.nil ?_
  refine Wp.block ?_
  refine Wp.loopS (α := Nat) (fun k => 7 - k) (fun k => [(0, pt p), (3, pt L3), (9, .int .i64 (k : Int))]) (fun _ => (L3, cel [.int .i64 number] 3) :: wE p v now put M.length :: (flatE es 448 ++ R)) (fun k => k ≤ 7 ∧ ∀ j, j < 64 * k → ∀ t ∈ tabM now M j, (t.no : Int) ≠ number) 0 ?_ (.refl _) ⟨Nat.zero_le _, fun _ h => by omega⟩ ?_
  · exact .cons rfl (.cons rfl (.cons rfl (.nil _)))
  rintro k ⟨hk, hno⟩
  refine Wp.seq (Wp.region ?_)
  refine OWp.evs 1 rfl ?_
  refine OWp.nil ?_
  refine Wp.seq ?_
  refine Wp.cond rfl (fun h1 => ?_) (fun h1 => ?_)
  · have h1 := of_decide_eq_true h1
    have hk2 : k < 7 := by omega
    refine Wp.skip ?_
    refine Wp.seq ?_
    refine Wp.block ?_
    refine Wp.seq (Wp.region ?_)
    refine OWp.evs 2 rfl ?_
    refine OWp.nil ?_
    refine Wp.seq (Wp.region ?_)
    refine OWp.evs 1 rfl ?_
    refine OWp.nil ?_
    refine Wp.block ?_
    refine Wp.loopS (α := Nat) (fun i => 64 - i) (fun i => [(0, pt p), (3, pt L3), (5, .int .i64 (k : Int)), (9, .int .i64 (k : Int)), (12, .int .i64 (i : Int))]) (fun _ => (L3, cel [.int .i64 number] 3) :: wE p v now put M.length :: (flatE es 448 ++ R)) (fun i => i ≤ 64 ∧ ∀ j, j < 64 * k + i → ∀ t ∈ tabM now M j, (t.no : Int) ≠ number) 0 ?_ (.refl _) ⟨Nat.zero_le _, hno⟩ ?_
    · exact .cons rfl (.cons rfl (.cons rfl (.cons rfl (.cons rfl (.nil _)))))
    rintro i ⟨hi, hno2⟩
    refine Wp.seq (Wp.region ?_)
    refine OWp.evs 1 rfl ?_
    refine OWp.nil ?_
    refine Wp.seq ?_
    refine Wp.cond rfl (fun h2 => ?_) (fun h2 => ?_)
    · have h2 := of_decide_eq_true h2
      have hi2 : i < 64 := by omega
      obtain ⟨j, hje⟩ : ∃ j, j = 64 * k + i := ⟨_, rfl⟩
      have hj : j < 448 := by omega
      have hl := (hw.slots j hj).reads
      obtain ⟨la, lc, hv⟩ := hl.form
      rw [hv] at hl
      have hll : (tabM now M j).length ≤ 4096 := Nat.le_trans (tabM_len now M j) hml
      refine Wp.skip ?_
      refine Wp.seq ?_
      refine Wp.block ?_
      refine Wp.seq (Wp.region ?_)
      refine OWp.evs 2 rfl ?_
      refine OWp.nil ?_
      refine Wp.seq (Wp.region ?_)
      refine OWp.evs 5 rfl ?_
      refine OWp.g rfl rfl (Gives.indexAddrArr (k) rfl rfl rfl rfl rfl rfl (by omega)) ?_
      refine OWp.g rfl rfl (Gives.indexAddrArr (i) rfl rfl rfl rfl rfl rfl (by omega)) ?_
      refine OWp.evs 1 rfl ?_
      refine OWp.nil ?_
      refine Wp.seq (Wp.region ?_)
      refine OWp.evs 2 rfl ?_
      refine OWp.load (.tail _ (.head _)) rfl rfl rfl rfl ((wv_slot hj (by show 0 + 0 + k * 64 + i * 1 = j; omega)).trans (congrArg some hv)) ?_
      refine OWp.evs 1 rfl ?_
      refine OWp.step rfl (Step.call rfl rfl rfl rfl rfl rfl ((index2C (.head _) (hl.mono fun x hx => .tail _ (.tail _ (List.mem_append_left _ (flatE_mem hx hj)))) (by omega) ?_)))
      intro zi hzi
      refine OWp.evs 1 rfl ?_
      refine OWp.nil ?_
      refine Wp.seq (Wp.region ?_)
      refine OWp.evs 2 rfl ?_
      refine OWp.nil ?_
      refine Wp.cond rfl (fun h3 => ?_) (fun h3 => ?_)
      · have h3 := of_decide_eq_true h3
        obtain ⟨i', hi', rfl, hnum⟩ : ∃ i' : Nat, ∃ h : i' < (tabM now M j).length, zi = (i' : Int) ∧ ((tabM now M j)[i'].no : Int) = number := by
          rcases hzi with h | ⟨h, _⟩
          · exact h
          · omega
        have hmem := tabM_in (List.getElem_mem hi')
        have hel := erase_len hw.nos hmem hnum
        have hea := erase_at (nos_tab hw.nos j) hi' hnum
        have hpos : 0 < M.length := List.length_pos_of_mem hmem
        refine Wp.seq (Wp.region ?_)
        refine OWp.evs 3 rfl ?_
        refine OWp.load (.tail _ (.head _)) rfl rfl rfl rfl ((wv_slot hj (by show 0 + 0 + k * 64 + i * 1 = j; omega)).trans (congrArg some hv)) ?_
        refine OWp.evs 3 rfl ?_
        refine OWp.step rfl (Step.call rfl rfl rfl rfl rfl rfl ((CallWp.permS (((open_slot hj _ _).cons _).trans List.perm_middle.symm) (deleteC (i64_inc (by omega)) (by have := hw.slots j hj; rw [hv] at this; exact this) hi' (by omega) ?_))))
        intro v' e' ho'
        obtain ⟨xa, xc, rfl⟩ := ho'.reads.form
        refine OWp.permS (List.perm_middle.trans (.cons _ List.perm_middle)) ?_
        refine OWp.evs 1 rfl ?_
        refine OWp.step rfl (Step.storeAs 1 (wv (upd v j (.slice xa ((tabM now M j).length - 1) xc)) now put M.length) rfl rfl rfl rfl rfl hB rfl (Unfz.zero _) rfl (by rw [wv_len]; show 0 + 0 + k * 64 + i * 1 + 1 ≤ 451; omega) (wv_set_slot hj (by show 0 + 0 + k * 64 + i * 1 = j; omega)) rfl ?_)
        refine OWp.nil ?_
        refine Wp.seq (Wp.region ?_)
        refine OWp.evs 3 rfl ?_
        refine OWp.load (.tail _ (.head _)) rfl rfl rfl rfl (wv_many rfl) ?_
        refine OWp.evs 3 rfl ?_
        refine OWp.step rfl (Step.storeAs 1 (wv (upd v j (.slice xa ((tabM now M j).length - 1) xc)) now put (M.filter fun t => decide ((t.no : Int) ≠ number)).length) rfl rfl rfl rfl rfl hB rfl (Unfz.zero _) rfl (by rw [wv_len]; show 0 + 450 + 1 ≤ 451; decide) (by rw [show IntKind.i64.wrap ((M.length : Int) - 1) = (((M.filter fun t => decide ((t.no : Int) ≠ number)).length : Nat) : Int) by rw [i64_id] <;> omega]; exact wv_set_many rfl) rfl ?_)
        refine OWp.nil ?_
        refine Wp.seq (Wp.region ?_)
        refine OWp.evs 1 rfl ?_
        refine OWp.nil ?_
        refine Wp.ret ⟨trivial, _, ⟨_, _, rfl, rfl, rfl⟩, ?_⟩
        refine ⟨_, _, .cons _ (shut2 hj _ _ _), List.sublist_cons_self _ _, H0 _ hmem hnum _ _ (hw.filter ?_)⟩
        rw [tabM_cut (j0 := j) (fun t ht hp => ?_) (by omega)]
        · refine hw.slots.upd ?_
          rw [← hea]
          rw [show ((tabM now M j).take i' ++ (tabM now M j).drop (i' + 1)).length = (tabM now M j).length - 1 by rw [List.length_append, List.length_take, List.length_drop]; omega]
          exact ho'
        · have e : (t.no : Int) = number := by simpa using hp
          have e2 : t = (tabM now M j)[i'] := by
            rcases nos_same hw.nos ht hmem with h | h
            · exact h
            · omega
          rw [e2]; exact List.getElem_mem hi'
      have h3 := of_decide_eq_false h3
      refine Wp.skip ?_
      refine Wp.region ?_
      refine OWp.evs 2 rfl ?_
      refine OWp.nil ?_
      refine ⟨i + 1, by omega, ⟨by omega, fun j' hj' t ht => ?_⟩, .cons rfl (.cons rfl (.cons rfl (.cons rfl (.cons' rfl (int_eq (i64_inc (by omega))) (.nil _))))), .refl _⟩
      rcases Nat.lt_or_ge j' (64 * k + i) with h | h
      · exact hno2 j' h t ht
      · obtain rfl : j' = j := by omega
        rcases hzi with ⟨i', _, h, _⟩ | ⟨_, h⟩
        · omega
        · exact h t ht
    have h2 := of_decide_eq_false h2
    obtain rfl : i = 64 := by omega
    refine Wp.exit ?_
    refine Wp.region ?_
    refine OWp.evs 2 rfl ?_
    refine OWp.nil ?_
    exact ⟨k + 1, by omega, ⟨by omega, fun j hj => hno2 j (by omega)⟩, .cons rfl (.cons rfl (.cons' rfl (int_eq (i64_inc (by omega))) (.nil _))), .refl _⟩
  have h1 := of_decide_eq_false h1
  obtain rfl : k = 7 := by omega
  refine Wp.exit ?_
  refine Wp.seq (Wp.region ?_)
  refine OWp.evs 1 rfl ?_
  refine OWp.nil ?_
  refine Wp.ret ⟨trivial, _, ⟨_, _, rfl, rfl, rfl⟩, ?_⟩
  refine ⟨_, _, .refl _, List.sublist_cons_self _ _, H5 fun t ht => hno _ (slotAt_lt now t.due) t (mem_tabM ht)⟩
end
end Go.Proofs.E
