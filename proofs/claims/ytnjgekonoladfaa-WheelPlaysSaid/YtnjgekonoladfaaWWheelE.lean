/- What functions of the given program do, one after the other, told by that layer. -/
import Derived.Test.YtnjgekonoladfaaWWheelD
namespace Go.Proofs.E
open Go.Lg Go.Whl
set_option maxRecDepth 100000

theorem tabM_at (now : Nat) (M : List T) {k i : Nat} (hi : i < 64) : tabM now M (64 * k + i) = slot now M k i := by
  unfold tabM
  rw [show (64 * k + i) / 64 = k by omega, show (64 * k + i) % 64 = i by omega]
theorem slot_out (now : Nat) (M : List T) {k i : Nat} (hi : 64 ≤ i) : slot now M k i = [] := by
  apply List.eq_nil_iff_forall_not_mem.2
  intro t ht
  obtain ⟨_, _, hd⟩ := mem_slot.1 ht
  have := dig_lt t.due k
  omega
theorem WOk.fit' {B : Nat} {M : List T} {now put : Nat} {v : Nat → Value} {es : Nat → Ents} (h : WOk B M now put v es) : Fit now M := fun t ht => ⟨(h.fit t ht).1, far_most (h.fit t ht).2⟩
theorem WOk.small {B : Nat} {M : List T} {now put : Nat} {v : Nat → Value} {es : Nat → Ents} (h : WOk B M now put v es) (hp : put ≤ 1099511627776) : ∀ t ∈ M, Small t := fun t ht => ⟨(h.fit t ht).2, Nat.le_trans (h.low t ht) hp⟩
theorem WOk.form {B : Nat} {M : List T} {now put : Nat} {v : Nat → Value} {es : Nat → Ents} (h : WOk B M now put v es) {j : Nat} (hj : j < 448) : ∃ a c, v j = .slice a (tabM now M j).length c := (h.slots j hj).reads.form

attribute [local irreducible] wv flatE tabM slotAt
section
variable {B : Nat} {S R : Ents} {Q : Value → Ents → Prop}

set_option maxHeartbeats 1000000 in
theorem firstC {p now put many : Nat} {M : List T} {v : Nat → Value} {es : Nat → Ents} (hw : WOk B M now put v es) (hp : put ≤ 1099511627776)
    (H0 : M = [] → Q (.tuple #[.agg #[.int .i64 0, .int .i64 0, .int .i64 0], .bool false]) (wE p v now put many :: (flatE es 448 ++ R)))
    (H1 : ∀ t ∈ M, (∀ u ∈ M, t.due ≤ u.due) → Q (.tuple #[.agg (tc t).toArray, .bool true]) (wE p v now put many :: (flatE es 448 ++ R))) :
    CallWp Try.prog B 25 #[pt p] Q (wE p v now put many :: (flatE es 448 ++ R)) := by
  have hn := far_most hw.time
  have hsm := hw.small hp
  refine CallWp.dropRet ?_
  refine CallWp.enter (args := [_]) Try.func25 rfl Try.ntmps25 rfl ?_
  refine Wp.seq (Wp.region ?_)
  refine OWp.step rfl (Step.alloc rfl rfl rfl ?_); intro L2 hBL2 hLL2
  refine OWp.evs 1 rfl ?_
  refine OWp.nil ?_
  refine Wp.scope ?_
  refine Wp.seq (Wp.region ?_)
  refine OWp.evs 1 rfl ?_
  refine OWp.nil ?_
  refine Wp.seq ?_
  refine Wp.label ?_
  refine Wp.seq ?_
  refine Wp.seq (Wp.region ?_)
  refine OWp.evs 1 rfl ?_
  refine OWp.nil ?_
  refine Wp.block ?_
  refine Wp.loopS (α := Nat × Option Addr × Nat) (fun z => 7 - z.1) (fun z => [(0, pt p), (2, pt L2), (4, .slice z.2.1 0 z.2.2), (7, .int .i64 (z.1 : Int))]) (fun _ => (L2, cel [.int .i64 0, .int .i64 0, .int .i64 0] 59) :: wE p v now put many :: (flatE es 448 ++ R)) (fun z => z.1 ≤ 7 ∧ ∀ k' i', k' < z.1 → dig now k' ≤ i' → slot now M k' i' = []) (0, none, 0) ?_ (.refl _) ⟨Nat.zero_le _, fun _ _ h => by simp only at h; omega⟩ ?_
  · exact .cons rfl (.cons rfl (.cons rfl (.cons rfl (.nil _))))
  rintro ⟨k, fa, fc⟩ ⟨hk, hemp⟩
  simp only at hk hemp ⊢
  refine Wp.seq (Wp.region ?_)
  refine OWp.evs 1 rfl ?_
  refine OWp.nil ?_
  refine Wp.seq ?_
  refine Wp.cond rfl (fun h1 => ?_) (fun h1 => ?_)
  · have h1 := of_decide_eq_true h1
    have hk2 : k < 7 := by omega
    have hdn := dig_lt now k
    refine Wp.skip ?_
    refine Wp.seq ?_
    refine Wp.block ?_
    refine Wp.seq (Wp.region ?_)
    refine OWp.evs 2 rfl ?_
    refine OWp.nil ?_
    refine Wp.seq (Wp.region ?_)
    refine OWp.evs 3 rfl ?_
    refine OWp.load (.tail _ (.head _)) rfl rfl rfl rfl (wv_now rfl) ?_
    refine OWp.evs 1 rfl ?_
    refine OWp.step rfl (Step.call rfl rfl rfl rfl rfl rfl ((digitC rfl rfl hn (by omega) ?_)))
    refine OWp.evs 1 rfl ?_
    refine OWp.nil ?_
    refine Wp.block ?_
    refine Wp.loopS (α := Nat × Option Addr × Nat) (fun z => 64 - z.1) (fun z => [(0, pt p), (2, pt L2), (4, .slice z.2.1 0 z.2.2), (5, .int .i64 (k : Int)), (6, .int .i64 (z.1 : Int)), (7, .int .i64 (k : Int))]) (fun _ => (L2, cel [.int .i64 0, .int .i64 0, .int .i64 0] 59) :: wE p v now put many :: (flatE es 448 ++ R)) (fun z => dig now k ≤ z.1 ∧ z.1 ≤ 64 ∧ ∀ i', dig now k ≤ i' → i' < z.1 → slot now M k i' = []) (dig now k, fa, fc) ?_ (.refl _) ⟨Nat.le_refl _, Nat.le_of_lt hdn, fun _ h1 h2 => by simp only at h2; omega⟩ ?_
    · exact .cons rfl (.cons rfl (.cons rfl (.cons rfl (.cons rfl (.cons rfl (.nil _))))))
    rintro ⟨i, ga, gc⟩ ⟨hi1, hi, hemp2⟩
    simp only at hi1 hi hemp2 ⊢
    refine Wp.seq ?_
    refine Wp.seq (Wp.region ?_)
    refine OWp.evs 2 rfl ?_
    refine OWp.nil ?_
    refine Wp.cond rfl (fun h2 => ?_) (fun h2 => ?_)
    · have h2 := of_decide_eq_true h2
      have hi2 : i < 64 := by omega
      have hj : 64 * k + i < 448 := by omega
      obtain ⟨a, c, hv⟩ := hw.form hj
      refine Wp.skip ?_
      refine Wp.seq ?_
      refine Wp.block ?_
      refine Wp.seq (Wp.region ?_)
      refine OWp.evs 5 rfl ?_
      refine OWp.g rfl rfl (Gives.indexAddrArr (k) rfl rfl rfl rfl rfl rfl (by omega)) ?_
      refine OWp.g rfl rfl (Gives.indexAddrArr (i) rfl rfl rfl rfl rfl rfl (by omega)) ?_
      refine OWp.load (.tail _ (.head _)) rfl rfl rfl rfl ((wv_slot hj (by show 0 + 0 + k * 64 + i * 1 = 64 * k + i; omega)).trans (congrArg some hv)) ?_
      refine OWp.evs 1 rfl ?_
      refine OWp.nil ?_
      refine Wp.seq (Wp.region ?_)
      refine OWp.evs 3 rfl ?_
      refine OWp.nil ?_
      refine Wp.cond rfl (fun h3 => ?_) (fun h3 => ?_)
      · have h3 := of_decide_eq_true h3
        have hne : 0 < (tabM now M (64 * k + i)).length := by omega
        have hin : ∀ t ∈ tabM now M (64 * k + i), t ∈ M := fun t ht => by rw [tabM_at now M hi2] at ht; exact (mem_slot.1 ht).1
        refine Wp.exit ?_
        refine Wp.seq ?_
        refine Wp.seq (Wp.region ?_)
        refine OWp.evs 3 rfl ?_
        refine OWp.nil ?_
        refine Wp.cond rfl (fun cc1 => absurd (of_decide_eq_true cc1) (by omega)) (fun cc1 => ?_)
        have cc1 := of_decide_eq_false cc1
        refine Wp.skip ?_
        refine Wp.seq (Wp.region ?_)
        refine OWp.evs 1 rfl ?_
        refine OWp.step rfl (Step.call rfl rfl rfl rfl rfl rfl ((minC (l := tabM now M (64 * k + i)) (by have := (hw.slots _ hj).reads; rw [hv] at this; exact this.mono fun x hx => .tail _ (.tail _ (List.mem_append_left _ (flatE_mem hx hj)))) hne (by have := tabM_len now M (64 * k + i); have := hw.len; omega) (fun t ht => hsm t (hin t ht)) ?_)))
        intro t ht hmin
        refine OWp.step rfl (Step.storeAs 0 (tc t) rfl rfl rfl rfl rfl hBL2 rfl (Unfz.zero _) rfl (Nat.le_of_ble_eq_true rfl) rfl rfl ?_)
        have hpart : Lg.partAt Try.prog 59 (tc t) 0 = some (.agg (tc t).toArray) := rfl
        refine OWp.evs 1 rfl ?_
        refine OWp.nil ?_
        refine Wp.ret ⟨trivial, _, ⟨_, _, _, _, rfl, rfl, ⟨_, _, _, (by repeat (first | exact List.Mem.head _ | assumption | apply List.mem_cons_of_mem | apply List.mem_append_right)), (by first | assumption | rfl)⟩, ⟨_, _, rfl, rfl, rfl⟩⟩, ?_⟩
        refine ⟨_, List.sublist_cons_self _ _, H1 t (hin t ht) fun u hu => ?_⟩
        rcases Nat.lt_or_ge u.due t.due with h | h
        · rw [tabM_at now M hi2] at ht hmin
          exact hmin u (first_least hn hw.fit' hemp hemp2 ht hu h)
        · exact h
      have h3 := of_decide_eq_false h3
      refine Wp.skip ?_
      refine Wp.region ?_
      refine OWp.evs 3 rfl ?_
      refine OWp.nil ?_
      have hz : tabM now M (64 * k + i) = [] := List.eq_nil_of_length_eq_zero (by omega)
      refine ⟨(i + 1, a, c), by simp only; omega, ⟨by simp only; omega, by simp only; omega, fun i' h4 h5 => ?_⟩, .cons rfl (.cons rfl (.cons' rfl (by simp only; rw [hz]; rfl) (.cons rfl (.cons' rfl (int_eq (i64_inc (by omega))) (.cons rfl (.nil _)))))), .refl _⟩
      simp only at h5
      rcases Nat.lt_or_ge i' i with h | h
      · exact hemp2 i' h4 h
      · obtain rfl : i' = i := by omega
        rw [← tabM_at now M hi2]; exact hz
    have h2 := of_decide_eq_false h2
    obtain rfl : i = 64 := by omega
    refine Wp.exit ?_
    refine Wp.region ?_
    refine OWp.evs 2 rfl ?_
    refine OWp.nil ?_
    refine ⟨(k + 1, ga, gc), by simp only; omega, ⟨by simp only; omega, fun k' i' h4 h5 => ?_⟩, .cons rfl (.cons rfl (.cons rfl (.cons' rfl (int_eq (i64_inc (by omega))) (.nil _)))), .refl _⟩
    simp only at h4
    rcases Nat.lt_or_ge k' k with h | h
    · exact hemp k' i' h h5
    · obtain rfl : k' = k := by omega
      rcases Nat.lt_or_ge i' 64 with h6 | h6
      · exact hemp2 i' h5 h6
      · exact slot_out now M h6
  have h1 := of_decide_eq_false h1
  refine Wp.exit ?_
  refine Wp.seq ?_
  refine Wp.seq (Wp.region ?_)
  refine OWp.evs 3 rfl ?_
  refine OWp.nil ?_
  refine Wp.cond rfl (fun cc2 => ?_) (fun cc2 => absurd (of_decide_eq_false cc2) (by decide))
  have cc2 := of_decide_eq_true cc2
  refine Wp.seq (Wp.region ?_)
  refine OWp.g rfl rfl (Gives.build rfl rfl) ?_
  refine OWp.step rfl (Step.storeAs 0 [.int .i64 0, .int .i64 0, .int .i64 0] rfl rfl rfl rfl rfl hBL2 rfl (Unfz.zero _) rfl (Nat.le_of_ble_eq_true rfl) rfl rfl ?_)
  have hpart : Lg.partAt Try.prog 59 [.int .i64 0, .int .i64 0, .int .i64 0] 0 = some (.agg #[.int .i64 0, .int .i64 0, .int .i64 0]) := rfl
  refine OWp.evs 1 rfl ?_
  refine OWp.nil ?_
  refine Wp.ret ⟨trivial, _, ⟨_, _, _, _, rfl, rfl, ⟨_, _, _, (by repeat (first | exact List.Mem.head _ | assumption | apply List.mem_cons_of_mem | apply List.mem_append_right)), (by first | assumption | rfl)⟩, ⟨_, _, rfl, rfl, rfl⟩⟩, ?_⟩
  refine ⟨_, List.sublist_cons_self _ _, H0 ?_⟩
  by_cases hM : M = []
  · exact hM
  · obtain ⟨k', i', h4, _, h6, h7⟩ := some_slot hn hw.fit' hM
    exact absurd (hemp k' i' (by omega) h6) h7
end
end Go.Proofs.E
