/- What functions of the given program do, one after the other, told by that layer. -/
import Derived.Test.YtkjaehdfmmcgmaaGreatDoorMM6x6d58
import Derived.Test.YtkjaehdfmmcgmaaGreatDoorLgM2x52c3
import Derived.Test.YtkjaehdfmmcgmaaGreatDoorMM3xc0b7
import Derived.Test.YtkjaehdfmmcgmaaGreatDoorMM5x7e77
namespace Go.Proofs.E
open Go.Lg Go.Whl
set_option maxRecDepth 100000

theorem shr_pow {a k : Nat} (hk : k ≤ 6) : (a : Int).fdiv (2 ^ (min (6 * k) IntKind.i64.bits)) = ((a / 64 ^ k : Nat) : Int) := by
 have e1 : min (6 * k) IntKind.i64.bits = 6 * k := by show min (6 * k) 64 = _; omega
 rw [e1, ← pow6, Int.fdiv_eq_ediv_of_nonneg _ (by exact Int.le_of_lt (Int.pow_pos (by decide)))]
 simp
theorem slot_self (now : Nat) (M : List T) {k : Nat} (hk : 0 < k) : slot now M k (dig now k) = [] := by
 apply List.eq_nil_iff_forall_not_mem.2
 intro t ht
 obtain ⟨_, hl, hd⟩ := mem_slot.1 ht
 have h3 := levF_at (now := now) (a := t.due) (k := 6) (by show 0 < lev now t.due; omega)
 rw [show levF now t.due 6 = k from hl] at h3
 exact h3 hd
theorem tabM_in {now : Nat} {M : List T} {j : Nat} {t : T} (h : t ∈ tabM now M j) : t ∈ M := (mem_slot.1 h).1
theorem len_snoc (l : List T) (t : T) : (l ++ [t]).length = l.length + 1 := by simp
theorem tabM_nil (now j : Nat) : tabM now [] j = [] := rfl
theorem tabM_take_le (now : Nat) (l : List T) (i j : Nat) : (tabM now (l.take i) j).length ≤ (tabM now l j).length := by
 have e : tabM now l j = tabM now (l.take i) j ++ tabM now (l.drop i) j := by
  unfold tabM
  rw [← slot_append, List.take_append_drop]
 rw [e, List.length_append]
 omega
theorem relay {B was to : Nat} {M : List T} {v : Nat → Value} {es : Nat → Ents} (hw : was < most) (ht : to < most) (hf : Fit to M) (hle : was ≤ to) {k : Nat} (hk : k ≤ 6) (hk0 : 0 < k) (hne : was / 64 ^ k ≠ to / 64 ^ k)
  (hs : (was / 64 ^ (k + 1) = to / 64 ^ (k + 1) ∧ SlotsOk B (tabM was M) v es) ∨ SlotsOk B (tabM to M) v es) :
  ∃ tab, SlotsOk B tab v es ∧ (∀ j, upd tab (64 * k + dig to k) [] j ++ tabM to (tab (64 * k + dig to k)) j = tabM to M j) ∧ (∀ t ∈ tab (64 * k + dig to k), t ∈ M) ∧ (tab (64 * k + dig to k)).length ≤ M.length := by
 have hd := dig_lt to k
 rcases hs with ⟨h1, hs⟩ | hs
 ·refine ⟨_, hs, fun j => ?_, fun t h => tabM_in h, tabM_len _ _ _⟩
  have h2 : dig was k < dig to k := by
   have := Nat.div_le_div_right (c := 64 ^ k) hle
   rw [div_succ was k, div_succ to k, h1] at hne this
   omega
  rw [tabM_at was M hd]
  have h3 := moved hw ht hf (K := k) (by omega) h1 h2 (j / 64) (j % 64)
  rcases h3 with ⟨_, h3⟩ | h3
  ·by_cases e : j = 64 * k + dig to k
   ·subst e
    rw [upd_same, List.nil_append, tabM_at to _ hd, tabM_at to _ hd, slot_self to _ hk0, slot_self to _ hk0]
   ·rw [upd_ne _ _ e]
    rw [if_neg (by omega)] at h3
    exact h3.symm
  ·omega
 ·have e0 : tabM to M (64 * k + dig to k) = [] := by rw [tabM_at to _ hd, slot_self to _ hk0]
  refine ⟨_, hs, fun j => ?_, fun t h => tabM_in h, tabM_len _ _ _⟩
  rw [e0, tabM_nil, List.append_nil]
  conv => lhs; rw [← e0]
  rw [upd_self]
theorem lay_next {to j0 i : Nat} {tab : Nat → List T} {l : List T} (hi : i < l.length) :
  (fun j => upd tab j0 [] j ++ tabM to (l.take (i + 1)) j) = upd (fun j => upd tab j0 [] j ++ tabM to (l.take i) j) (slotAt to l[i].due) (upd tab j0 [] (slotAt to l[i].due) ++ tabM to (l.take i) (slotAt to l[i].due) ++ [l[i]]) := by
 have e : l.take (i + 1) = l.take i ++ [l[i]] := by rw [List.take_succ_eq_append_getElem hi]
 funext j
 rw [e, tabM_append]
 by_cases h : j = slotAt to l[i].due
 ·subst h
  rw [upd_same, upd_same, List.append_assoc]
 ·rw [upd_ne _ _ h, upd_ne _ _ h]

attribute [local irreducible] wv flatE tabM slotAt
section
variable {B : Nat} {S R : Ents} {Q : Value → Ents → Prop}

set_option maxHeartbeats 2000000 in
theorem moveC {p was to put many : Nat} {M : List T} {v : Nat → Value} {es : Nat → Ents} {zt : Int} (hzt : zt = (to : Int)) (hB : B ≤ p) (hw : WOk B M was put v es) (hle : was ≤ to) (hto : to ≤ 1099511627776) (hd : ∀ t ∈ M, to ≤ t.due)
  (H : ∀ v' es', WOk B M to put v' es' → Q (.tuple #[]) (wE p v' to put many :: (flatE es' 448 ++ R))) :
  CallWp Tryz.prog B 47 #[pt p, .int .i64 zt] Q (wE p v was put many :: (flatE es 448 ++ R)) := by
 subst hzt
 have hwm := far_most hw.time
 have htm := far_most hto
 have hf : Fit to M := fun t ht => ⟨hd t ht, far_most (hw.fit t ht).2⟩
 refine Yx (args := [_, _]) Tryz.func47 Tryz.ntmps47 ?_
 refine Yg 3 rfl ?_
 refine OWp.load (.head _) rfl rfl rfl rfl (wv_now rfl) ?_
 refine Yz 1 rfl ?_
 refine Yg 4 rfl ?_
 refine OWp.step rfl (Step.storeAs 0 (wv v to put many) rfl rfl rfl rfl rfl hB rfl (Unfz.zero _) rfl (by rw [wv_len]; show 0 + 448 + 1 ≤ 451; decide) (wv_set_now rfl) rfl ?_)
 refine OWp.nil ?_
 refine Yn 1 rfl ?_
 refine Wp.block ?_
 refine Wp.loopS (α := Nat × (Nat → Value) × (Nat → Ents)) (fun z => z.1) (fun z => [(0, pt p), (1, .int .i64 (to : Int)), (4, .int .i64 (was : Int)), (5, .int .i64 (z.1 : Int))]) (fun z => wE p z.2.1 to put many :: (flatE z.2.2 448 ++ R)) (fun z => z.1 ≤ 6 ∧ ((was / 64 ^ (z.1 + 1) = to / 64 ^ (z.1 + 1) ∧ SlotsOk B (tabM was M) z.2.1 z.2.2) ∨ SlotsOk B (tabM to M) z.2.1 z.2.2)) (6, v, es) ?_ (.refl _) ⟨Nat.le_refl _, .inl ⟨by show was / 64 ^ 7 = to / 64 ^ 7; rw [top_zero hwm, top_zero htm], hw.slots⟩⟩ ?_
 ·exact .cons rfl (.cons rfl (.cons rfl (.cons rfl (.nil _))))
 rintro ⟨k, v1, e1⟩ ⟨hk, hs⟩
 simp only at hk hs ⊢
 refine Wp.seq ?_
 refine Yn 2 rfl ?_
 refine Wp.cond rfl (fun h1 => ?_) (fun h1 => ?_)
 ·have h1 := of_decide_eq_true h1
  have hk0 : 0 < k := by omega
  refine Wp.skip ?_
  refine Wp.seq ?_
  refine Wp.block ?_
  refine Wp.seq ?_
  refine Wp.seq (Wp.regionDraw [0, 1, 2, 3, 4, 5, 6, 7, 8] [] rfl (by decide +kernel) ?_)
  refine DWp.evs 3 rfl ?_
  refine DWp.g rfl rfl rfl rfl (Gives.shr (m := 6 * k) rfl rfl rfl (by rw [i64_id] <;> omega)) ?_
  refine DWp.evs 3 rfl ?_
  refine DWp.g rfl rfl rfl rfl (Gives.shr (m := 6 * k) rfl rfl rfl (by rw [i64_id] <;> omega)) ?_
  refine DWp.evs 1 rfl ?_
  refine DWp.nil ?_
  refine Wp.cond rfl (fun h2 => ?_) (fun h2 => ?_)
  ·have h2 := of_decide_eq_true h2
   rw [shr_pow hk, shr_pow hk] at h2
   have h2 : was / 64 ^ k = to / 64 ^ k := by omega
   refine Wp.exit ?_
   refine Wp.region ?_
   refine Yz 3 rfl ?_
   refine ⟨(k - 1, v1, e1), by simp only; omega, ⟨by simp only; omega, ?_⟩, .cons rfl (.cons rfl (.cons rfl (.cons' rfl (int_eq (by rw [i64_id] <;> omega)) (.nil _)))), .refl _⟩
   simp only
   rcases hs with ⟨_, hs⟩ | hs
   ·left; rw [show k - 1 + 1 = k by omega]; exact ⟨h2, hs⟩
   ·exact .inr hs
  have h2 := of_decide_eq_false h2
  rw [shr_pow hk, shr_pow hk] at h2
  have h2 : was / 64 ^ k ≠ to / 64 ^ k := by omega
  obtain ⟨tab, hsl, hrel, hin, hlt⟩ := relay hwm htm hf hle hk hk0 h2 hs
  have hdk := dig_lt to k
  obtain ⟨j0, hj0⟩ : ∃ j0, j0 = 64 * k + dig to k := ⟨_, rfl⟩
  rw [← hj0] at hrel hin hlt
  have hj : j0 < 448 := by omega
  obtain ⟨la, lc, hv⟩ := (hsl.reads hj).form
  have hl := (hsl j0 hj).reads
  rw [hv] at hl
  obtain ⟨l, hll⟩ : ∃ l, l = tab j0 := ⟨_, rfl⟩
  rw [← hll] at hl hrel hin hv hlt
  have hlen0 := Nat.le_trans hlt hw.len
  refine Wp.skip ?_
  refine Wp.seq (Wp.regionDraw [0, 1, 2, 3, 5, 6, 7, 4, 8, 9] [4] rfl (by decide +kernel) ?_)
  refine DWp.evs 6 rfl ?_
  refine DWp.g rfl rfl rfl rfl (Gives.indexAddrArr (k) rfl rfl rfl rfl rfl rfl (by omega)) ?_
  refine DWp.stepGrow rfl rfl rfl (Step.call rfl rfl rfl rfl rfl rfl ((digitC rfl rfl htm hk ?_)))
  refine ⟨fun _ hy => hy, ?_⟩
  refine DWp.g rfl rfl rfl rfl (Gives.indexAddrArr ((dig to k)) rfl rfl rfl rfl rfl rfl (by omega)) ?_
  refine DWp.evs 1 rfl ?_
  refine DWp.nil ?_
  refine Yg 2 rfl ?_
  refine OWp.load (.head _) rfl rfl rfl rfl ((wv_slot hj (by show 0 + 0 + k * 64 + dig to k * 1 = j0; omega)).trans (congrArg some hv)) ?_
  refine Yz 1 rfl ?_
  refine Yg 2 rfl ?_
  refine OWp.step rfl (Step.storeAs 0 (wv (upd v1 j0 (.slice none 0 0)) to put many) rfl rfl rfl rfl rfl hB rfl (Unfz.zero _) rfl (by rw [wv_len]; show 0 + 0 + k * 64 + dig to k * 1 + 1 ≤ 451; omega) (wv_set_slot hj (by show 0 + 0 + k * 64 + dig to k * 1 = j0; omega)) rfl ?_)
  refine OWp.nil ?_
  refine Wp.permS ((open2 hj _ _).trans (.cons _ (List.perm_append_comm_assoc _ _ _))) ?_
  refine Yn 3 rfl ?_
  refine Wp.block ?_
  refine Wp.loopS (α := Nat × (Nat → Value) × (Nat → Ents)) (fun z => l.length - z.1) (fun z => [(0, pt p), (1, .int .i64 (to : Int)), (4, .int .i64 (was : Int)), (5, .int .i64 (k : Int)), (46, .slice la l.length lc), (47, .int .i64 (l.length : Int)), (48, .int .i64 (z.1 : Int))]) (fun z => wE p z.2.1 to put many :: (flatE z.2.2 448 ++ (e1 j0 ++ R))) (fun z => z.1 ≤ l.length ∧ SlotsOk B (fun j => upd tab j0 [] j ++ tabM to (l.take z.1) j) z.2.1 z.2.2) (0, upd v1 j0 (.slice none 0 0), upd e1 j0 []) ?_ (.refl _) ⟨Nat.zero_le _, ?_⟩ ?_
  ·exact .cons rfl (.cons rfl (.cons rfl (.cons rfl (.cons rfl (.cons rfl (.cons rfl (.nil _)))))))
  ·simp only [List.take_zero, tabM_nil, List.append_nil]; exact hsl.upd (Own.nil _ _ _)
  rintro ⟨i, v2, e2⟩ ⟨hi, hs2⟩
  simp only at hi hs2 ⊢
  refine Yn 1 rfl ?_
  refine Wp.seq ?_
  refine Wp.cond rfl (fun h3 => ?_) (fun h3 => ?_)
  ·have h3 := of_decide_eq_true h3
   have hi2 : i < l.length := by omega
   obtain ⟨b1, o1, c1, L, e, fz, hvl, hm, hat⟩ := timer_at hl (by omega)
   cases hvl
   have hmem := hin l[i] (List.getElem_mem hi2)
   have hj2 := slotAt_lt to l[i].due
   have hlen2 : (upd tab j0 [] (slotAt to l[i].due) ++ tabM to (l.take i) (slotAt to l[i].due)).length ≤ 4096 := by
    have h4 := congrArg List.length (hrel (slotAt to l[i].due))
    have h5 := tabM_take_le to l i (slotAt to l[i].due)
    have h6 := tabM_len to M (slotAt to l[i].due)
    have h7 := hw.len
    rw [List.length_append] at h4 ⊢
    omega
   have hs3 := hs2 _ hj2
   simp only at hs3
   refine Wp.skip ?_
   refine Wp.seq ?_
   refine Wp.block ?_
   refine Yq ?_
   refine OWp.g rfl rfl (Gives.indexAddrSlice (i) rfl rfl rfl rfl rfl rfl (by omega)) ?_
   refine OWp.load (.tail _ (List.mem_append_right _ (List.mem_append_left _ hm))) rfl rfl rfl rfl (hat i hi2) ?_
   refine Ya rfl rfl rfl rfl fun L9 hBL9 hLL9 => ?_
   refine OWp.step rfl (Step.storeAs 0 (tc l[i]) rfl rfl rfl rfl rfl hBL9 rfl (Unfz.zero _) rfl (Nat.le_of_ble_eq_true rfl) rfl rfl ?_)
   refine OWp.nil ?_
   refine Yg 2 rfl ?_
   refine Yl m0 ?_
   refine Yc rfl rfl (placeC rfl (.tail _ (.head _)) htm (far_most (hw.fit _ hmem).2) ?_)
   refine Yz 1 rfl ?_
   refine Wp.permS (.cons _ (open2 hj2 _ _)) ?_
   refine Wp.regionDraw [0, 1, 2, 3, 4, 5, 6, 7, 8] [5, 6, 8] rfl (by decide +kernel) ?_
   refine DWp.evs 3 rfl ?_
   refine DWp.load (.tail _ (.head _)) rfl rfl rfl rfl rfl rfl (wv_slot hj2 rfl) ?_
   refine Yd m0 ?_
   refine DWp.stepGrow rfl rfl rfl (Step.buildSlice rfl rfl rfl ?_); intro Lp1 hBLp1 hLLp1; refine ⟨fun _ hy => .tail _ hy, ?_⟩
   refine DWp.stepAll rfl rfl rfl rfl (Step.appendAt [_, _, _] rfl rfl rfl rfl rfl rfl (by decide) rfl rfl hs3 (Reads.row (k := 1) (sz := 3) (.head _) (Nat.le_of_ble_eq_true rfl)) rfl (by show (_ + 1) * 24 ≤ _; omega) (by unfold maxLen; omega) ?_); intro x e3 ho3 _
   refine DWp.drop0 (List.sublist_cons_self _ _) ?_
   obtain ⟨xa, xc, rfl⟩ := ho3.reads.form
   refine DWp.evs 1 rfl ?_
   refine DWp.stepAll rfl rfl rfl rfl (Step.storeAs 1 (wv (upd v2 (slotAt to l[i].due) (.slice xa ((upd tab j0 [] (slotAt to l[i].due) ++ tabM to (l.take i) (slotAt to l[i].due)).length + 1) xc)) to put many) rfl rfl rfl rfl rfl hB rfl (Unfz.zero _) rfl (by rw [wv_len]; show slotAt to l[i].due + 1 ≤ 451; omega) (wv_set_slot hj2 rfl) rfl ?_)
   refine DWp.nil ?_
   refine Wp.permS (.cons _ (shut2 hj2 _ _ _)) ?_
   refine Wp.drop (List.sublist_cons_self _ _) ?_
   refine Wp.region ?_
   refine Yz 2 rfl ?_
   refine ⟨(i + 1, _, upd e2 (slotAt to l[i].due) e3), by simp only; omega, ⟨by simp only; omega, ?_⟩, .cons rfl (.cons rfl (.cons rfl (.cons rfl (.cons rfl (.cons rfl (.cons' rfl (int_eq (i64_inc (by omega))) (.nil _))))))), .refl _⟩
   simp only
   rw [lay_next hi2]
   refine hs2.upd ?_
   rw [len_snoc, tcs_append, tcs_one]
   exact ho3
  have h3 := of_decide_eq_false h3
  obtain rfl : i = l.length := by omega
  refine Wp.exit ?_
  refine Wp.drop (S' := wE p v2 to put many :: (flatE e2 448 ++ R)) (.cons_cons _ ((List.Sublist.refl _).append (List.sublist_append_right _ _))) ?_
  refine Wp.region ?_
  refine Yz 3 rfl ?_
  refine ⟨(k - 1, v2, e2), by simp only; omega, ⟨by simp only; omega, .inr ?_⟩, .cons rfl (.cons rfl (.cons rfl (.cons' rfl (int_eq (by rw [i64_id] <;> omega)) (.nil _)))), .refl _⟩
  intro j hjj
  have h5 := hs2 j hjj
  simp only [List.take_length] at h5
  rw [hrel j] at h5
  exact h5
 have h1 := of_decide_eq_false h1
 obtain rfl : k = 0 := by omega
 refine Wp.exit ?_
 refine ⟨trivial, [], rfl, ?_⟩
 refine H v1 e1 ⟨?_, hto, fun t ht => ⟨hd t ht, (hw.fit t ht).2⟩, hw.nos, hw.low, hw.len⟩
 rcases hs with ⟨h2, hs⟩ | hs
 ·intro j hjj
  have h5 := hs j hjj
  have h6 : tabM to M j = tabM was M j := by unfold tabM; exact moved_zero (by simpa using h2) _ _
  rw [h6]
  exact h5
 ·exact hs
end
end Go.Proofs.E

namespace Go.Proofs.E
open Go.Lg Go.Whl
set_option maxRecDepth 100000

theorem lev_self (a : Nat) : lev a a = 0 := by
 rcases Nat.eq_zero_or_pos (lev a a) with h | h
 ·exact h
 ·exact absurd rfl (levF_at (now := a) (a := a) (k := 6) h)
theorem slot_due {now : Nat} {M : List T} (hn : now < most) (hf : Fit now M) : slot now M 0 (dig now 0) = M.filter (·.due == now) := by
 unfold slot
 apply List.filter_congr
 intro t ht
 rw [Bool.eq_iff_iff]
 simp only [Bool.and_eq_true, beq_iff_eq]
 constructor
 ·rintro ⟨h1, h2⟩
  have h3 := lev_zero_dig hn (hf t ht).2 h1
  unfold dig at h2
  simp only [Nat.pow_zero, Nat.div_one] at h2
  omega
 ·intro h
  rw [h]
  exact ⟨lev_self now, rfl⟩
theorem tabM_filter (now : Nat) (M : List T) (p : T → Bool) (j : Nat) : tabM now (M.filter p) j = (tabM now M j).filter p := by
 unfold tabM slot
 rw [List.filter_filter, List.filter_filter]
 apply List.filter_congr
 intro t _
 exact Bool.and_comm _ _
theorem tabM_cut {now : Nat} {M : List T} {p : T → Bool} {j0 : Nat} (h : ∀ t ∈ M, p t = false → t ∈ tabM now M j0) (hd : j0 = 64 * (j0 / 64) + j0 % 64) : tabM now (M.filter p) = upd (tabM now M) j0 ((tabM now M j0).filter p) := by
 funext j
 rw [tabM_filter]
 by_cases e : j = j0
 ·subst e; rw [upd_same]
 ·rw [upd_ne _ _ e, List.filter_eq_self]
  intro t ht
  by_cases hp : p t = false
  ·exfalso
   have h1 := mem_slot.1 (h t (tabM_in ht) hp)
   have h2 := mem_slot.1 ht
   apply e
   have e1 : j / 64 = j0 / 64 := h2.2.1.symm.trans h1.2.1
   have e2 : j % 64 = j0 % 64 := by
    have h3 := h2.2.2
    rw [e1] at h3
    exact h3.symm.trans h1.2.2
   omega
  ·simpa using hp
theorem filter_not_len {α : Type} (p : α → Bool) : ∀ l : List α, (l.filter p).length + (l.filter fun t => !p t).length = l.length
 | [] => rfl
 | a :: l => by
  have ih := filter_not_len p l
  rw [List.filter_cons, List.filter_cons]
  cases p a
  ·simp; omega
  ·simp; omega
theorem due_order {now : Nat} {M : List T} (hn : M.Pairwise fun a b => a.no < b.no) (hs : ∀ t ∈ M, Small t) : InOrder (M.filter (·.due == now)) := by
 refine ⟨fun i j hi hj hij => ?_, fun t ht => hs t (List.mem_filter.1 ht).1⟩
 have h1 := List.pairwise_iff_getElem.1 (hn.filter (·.due == now)) i j hi hj hij
 have h2 := (List.mem_filter.1 (List.getElem_mem hi)).2
 have h3 := (List.mem_filter.1 (List.getElem_mem hj)).2
 simp only [beq_iff_eq] at h2 h3
 unfold ordI
 rw [if_pos (by rw [h2, h3])]
 omega
theorem WOk.filter {B : Nat} {M : List T} {now put : Nat} {v : Nat → Value} {es : Nat → Ents} (h : WOk B M now put v es) {p : T → Bool} {v' : Nat → Value} {es' : Nat → Ents} (hs : SlotsOk B (tabM now (M.filter p)) v' es') : WOk B (M.filter p) now put v' es' :=
 ⟨hs, h.time, fun t ht => h.fit t (List.mem_filter.1 ht).1, h.nos.filter _, fun t ht => h.low t (List.mem_filter.1 ht).1, Nat.le_trans (List.length_filter_le _ _) h.len⟩

attribute [local irreducible] wv flatE tabM slotAt
section
variable {B : Nat} {S R : Ents} {Q : Value → Ents → Prop}

set_option maxHeartbeats 1000000 in
theorem dueC {p now put : Nat} {M : List T} {v : Nat → Value} {es : Nat → Ents} (hB : B ≤ p) (hw : WOk B M now put v es) (hp : put ≤ 1099511627776)
  (H : ∀ v' es' la lc de, WOk B (M.filter fun t => !(t.due == now)) now put v' es' → Reads de 3 (.slice la (M.filter (·.due == now)).length lc) (M.filter (·.due == now)).length (tcs (M.filter (·.due == now))) →
   Q (.slice la (M.filter (·.due == now)).length lc) (wE p v' now put (M.filter fun t => !(t.due == now)).length :: (flatE es' 448 ++ (de ++ R)))) :
  CallWp Tryz.prog B 48 #[pt p] Q (wE p v now put M.length :: (flatE es 448 ++ R)) := by
 have hn := far_most hw.time
 have hdn := dig_lt now 0
 obtain ⟨j0, hj0⟩ : ∃ j0, j0 = dig now 0 := ⟨_, rfl⟩
 rw [← hj0] at hdn
 have hj : j0 < 448 := by omega
 have hsl : tabM now M j0 = M.filter (·.due == now) := by
  rw [← slot_due hn hw.fit', ← hj0, ← tabM_at now M hdn]; congr 1; omega
 have hl := (hw.slots j0 hj).reads
 obtain ⟨la, lc, hv⟩ := hl.form
 have hcut := tabM_cut (now := now) (M := M) (p := fun t => !(t.due == now)) (j0 := j0) (fun t ht h => by rw [hsl]; exact List.mem_filter.2 ⟨ht, by simpa using h⟩) (by omega)
 rw [hsl] at hl hv hcut
 rw [show (M.filter (·.due == now)).filter (fun t => !(t.due == now)) = [] by
  rw [List.filter_eq_nil_iff]; intro t ht; have := (List.mem_filter.1 ht).2; simpa using this] at hcut
 have hlen := filter_not_len (fun t : T => t.due == now) M
 have hml := hw.len
 have hord := due_order (now := now) hw.nos (hw.small hp)
 obtain ⟨l, hll⟩ : ∃ l, l = M.filter (·.due == now) := ⟨_, rfl⟩
 rw [← hll] at hl hv hord hlen H
 rw [hv] at hl
 refine subRet ?_
 refine Yx (args := [_]) Tryz.func48 Tryz.ntmps48 ?_
 refine Yn 1 rfl ?_
 refine Wp.seq (Wp.regionDraw [0, 1, 2, 3, 4, 6, 7, 8, 5, 9, 10] [5] rfl (by decide +kernel) ?_)
 refine DWp.evs 4 rfl ?_
 refine DWp.load (.head _) rfl rfl rfl rfl rfl rfl (wv_now rfl) ?_
 refine DWp.evs 2 rfl ?_
 refine DWp.g rfl rfl rfl rfl (Gives.indexAddrArr (0) rfl rfl rfl rfl rfl rfl (by omega)) ?_
 refine DWp.stepGrow rfl rfl rfl (Step.call rfl rfl rfl rfl rfl rfl ((digitC rfl rfl hn (Nat.zero_le _) ?_)))
 refine ⟨fun _ hy => hy, ?_⟩
 rw [← hj0]
 refine DWp.g rfl rfl rfl rfl (Gives.indexAddrArr (j0) rfl rfl rfl rfl rfl rfl (by omega)) ?_
 refine DWp.evs 1 rfl ?_
 refine DWp.nil ?_
 refine Yg 2 rfl ?_
 refine OWp.load (.head _) rfl rfl rfl rfl ((wv_slot hj (by show 0 + 0 + 0 * 64 + j0 * 1 = j0; omega)).trans (congrArg some hv)) ?_
 refine Yz 1 rfl ?_
 refine Yg 2 rfl ?_
 refine OWp.step rfl (Step.storeAs 0 (wv (upd v j0 (.slice none 0 0)) now put M.length) rfl rfl rfl rfl rfl hB rfl (Unfz.zero _) rfl (by rw [wv_len]; show 0 + 0 + 0 * 64 + j0 * 1 + 1 ≤ 451; omega) (wv_set_slot hj (by show 0 + 0 + 0 * 64 + j0 * 1 = j0; omega)) rfl ?_)
 refine OWp.nil ?_
 refine Yg 3 rfl ?_
 refine OWp.load (.head _) rfl rfl rfl rfl (wv_many rfl) ?_
 refine Ye 5 rfl ?_
 refine OWp.step rfl (Step.storeAs 0 (wv (upd v j0 (.slice none 0 0)) now put (M.filter fun t => !(t.due == now)).length) rfl rfl rfl rfl rfl hB rfl (Unfz.zero _) rfl (by rw [wv_len]; show 0 + 450 + 1 ≤ 451; decide) (by rw [show IntKind.i64.wrap ((M.length : Int) - (l.length : Int)) = (((M.filter fun t => !(t.due == now)).length : Nat) : Int) by rw [i64_id] <;> omega]; exact wv_set_many rfl) rfl ?_)
 refine OWp.nil ?_
 refine Yg 1 rfl ?_
 refine Yc rfl rfl (sortC (hl.mono fun x hx => .tail _ (List.mem_append_left _ (flatE_mem hx hj))) hord (by omega) ?_)
 refine OWp.nil ?_
 refine Yn 2 rfl ?_
 refine Wp.ret ⟨trivial, _, ⟨_, _, rfl, rfl, rfl⟩, ?_⟩
 refine ⟨_, _, (open2 hj _ _).trans (.cons _ (List.perm_append_comm_assoc _ _ _)), .refl _, ?_⟩
 refine H _ _ _ _ _ (hw.filter ?_) hl
 rw [hcut]
 exact hw.slots.upd (Own.nil _ _ _)
end
end Go.Proofs.E

namespace Go.Proofs.E
open Go.Lg Go.Whl
set_option maxRecDepth 100000

abbrev iv (i : Int) : Value := .int .i64 i
/-- The earliest timer, or none. -/
def First (M : List T) (t : T) (b : Bool) : Prop := (b = false ∧ M = [] ∧ t = ⟨0, 0, 0⟩) ∨ (b = true ∧ t ∈ M ∧ ∀ u ∈ M, t.due ≤ u.due)
theorem left_all' {M : List T} {t : T} {to : Nat} (h : ∀ u ∈ M, t.due ≤ u.due) (ht : to < t.due) : ∀ u ∈ M, to < u.due := fun u hu => Nat.lt_of_lt_of_le ht (h u hu)
theorem cut_less {M : List T} {t : T} (ht : t ∈ M) : (M.filter fun u => !(u.due == t.due)).length < M.length := by
 have h := filter_not_len (fun u : T => u.due == t.due) M
 have h2 : 0 < (M.filter fun u => u.due == t.due).length := List.length_pos_of_mem (List.mem_filter.2 ⟨ht, by simp⟩)
 omega

theorem perm7 {α : Type} (w c : α) (F de oe R : List α) : (w :: (F ++ (de ++ (c :: (oe ++ R))))).Perm (oe ++ (c :: (w :: (F ++ (de ++ R))))) := by
 have h1 : (de ++ (c :: (oe ++ R))).Perm (c :: (oe ++ (de ++ R))) := List.perm_middle.trans (.cons _ (List.perm_append_comm_assoc _ _ _))
 have h2 : (F ++ (c :: (oe ++ (de ++ R)))).Perm (c :: (oe ++ (F ++ (de ++ R)))) := List.perm_middle.trans (.cons _ (List.perm_append_comm_assoc _ _ _))
 have h3 : (oe ++ (c :: (w :: (F ++ (de ++ R))))).Perm (c :: w :: (oe ++ (F ++ (de ++ R)))) := List.perm_middle.trans (.cons _ List.perm_middle)
 exact ((((h1.append_left F).trans h2).cons w).trans (.swap _ _ _)).trans h3.symm

attribute [local irreducible] wv flatE tabM slotAt
section
variable {B : Nat} {S R : Ents} {Q : Value → Ents → Prop}

theorem first2C {p now put many : Nat} {M : List T} {v : Nat → Value} {es : Nat → Ents} (hw : WOk B M now put v es) (hp : put ≤ 1099511627776)
  (H : ∀ t b, First M t b → Q (.tuple #[.agg (tc t).toArray, .bool b]) (wE p v now put many :: (flatE es 448 ++ R))) :
  CallWp Tryz.prog B 46 #[pt p] Q (wE p v now put many :: (flatE es 448 ++ R)) :=
 firstC hw hp (fun h => H ⟨0, 0, 0⟩ false (.inl ⟨rfl, h, rfl⟩)) (fun t ht h => H t true (.inr ⟨rfl, ht, h⟩))

set_option maxHeartbeats 2000000 in
theorem advC {p now put to : Nat} {M : List T} {v : Nat → Value} {es : Nat → Ents} {zt : Int} (hzt : zt = (to : Int)) (hB : B ≤ p) (hw : WOk B M now put v es) (hp : put ≤ 1099511627776) (hle : now ≤ to) (hto : to ≤ 1099511627776)
  (H : ∀ v' es' ov oe, WOk B (left M to) to put v' es' → Lg.Own B 3 1 ov (told M to).length ((told M to).map iv) oe → Q (.tuple #[ov, .int .i64 0]) (wE p v' to put (left M to).length :: (flatE es' 448 ++ (oe ++ R)))) :
  CallWp Tryz.prog B 28 #[pt p, .int .i64 zt] Q (wE p v now put M.length :: (flatE es 448 ++ R)) := by
 subst hzt
 refine CallWp.dropRet ?_
 refine Yx (args := [_, _]) Tryz.func28 Tryz.ntmps28 ?_
 refine Yn 2 rfl ?_
 refine Wp.seq ?_
 refine Wp.block ?_
 refine Yg 4 rfl ?_
 refine OWp.load (.head _) rfl rfl rfl rfl (wv_now rfl) ?_
 refine Yz 2 rfl ?_
 refine Ct rfl (by omega) fun cc1 => ?_
 refine Yn 3 rfl ?_
 refine Ct rfl (by omega) fun cc2 => ?_
 refine Wp.skip ?_
 refine Yn 1 rfl ?_
 refine Wp.seq ?_
 refine Wp.block ?_
 refine Wp.loopS (α := List Int × List T × Nat × Value × Ents × (Nat → Value) × (Nat → Ents)) (fun z => z.2.1.length) (fun z => [(0, pt p), (1, .int .i64 (to : Int)), (6, z.2.2.2.1)]) (fun z => z.2.2.2.2.1 ++ (wE p z.2.2.2.2.2.1 z.2.2.1 put z.2.1.length :: (flatE z.2.2.2.2.2.2 448 ++ R))) (fun z => WOk B z.2.1 z.2.2.1 put z.2.2.2.2.2.1 z.2.2.2.2.2.2 ∧ Lg.Own B 3 1 z.2.2.2.1 z.1.length (z.1.map iv) z.2.2.2.2.1 ∧ z.2.2.1 ≤ to ∧ told M to = z.1 ++ told z.2.1 to ∧ left z.2.1 to = left M to ∧ z.1.length + z.2.1.length ≤ 4096) ([], M, now, .slice none 0 0, [], v, es) ?_ (.refl _) ⟨hw, Own.nil _ _ _, hle, rfl, rfl, by have := hw.len; show 0 + M.length ≤ 4096; omega⟩ ?_
 ·exact .cons rfl (.cons rfl (.cons rfl (.nil _)))
 rintro ⟨acc, N, nw, ov, oe, v1, e1⟩ ⟨hw1, ho1, hle1, htold, hleft, hlen1⟩
 simp only at hw1 ho1 hle1 htold hleft hlen1 ⊢
 refine Wp.block ?_
 refine Yg 1 rfl ?_
 refine Yc rfl rfl (CallWp.permS (List.perm_middle.trans (.cons _ (List.perm_append_comm_assoc _ _ _))) (first2C hw1 hp ?_))
 intro t b hc
 refine Ye 3 rfl ?_
 refine Ya rfl rfl rfl rfl fun L7 hBL7 hLL7 => ?_
 refine OWp.step rfl (Step.storeAs 0 (tc t) rfl rfl rfl rfl rfl hBL7 rfl (Unfz.zero _) rfl (Nat.le_of_ble_eq_true rfl) rfl rfl ?_)
 rcases hc with ⟨rfl, hM, rfl⟩ | ⟨rfl, htm, hmin⟩
 ·skip
  subst hM
  refine Yz 1 rfl ?_
  refine Wp.seq ?_
  refine Yg 3 rfl ?_
  refine OWp.part 28 rfl (fun cc3 => ?_) (fun cc3 => (by contradiction))
  refine Yz 5 rfl ?_
  refine Cy rfl ?_
  refine Wp.exit ?_
  refine Yg 2 rfl ?_
  refine Yc rfl rfl (CallWp.permS ((List.Perm.swap _ _ _).trans (.cons _ List.perm_middle.symm)) (moveC rfl hB hw1 hle1 hto (fun _ h => nomatch h) ?_))
  intro v' es' hw2
  refine OWp.nil ?_
  refine Yn 3 rfl ?_
  refine Wp.ret ⟨trivial, _, ⟨_, _, rfl, rfl, _, _, rfl, rfl, rfl⟩, ?_⟩
  refine ⟨_, .cons_cons _ ((List.Sublist.refl _).append (List.sublist_cons_self _ _)), ?_⟩
  have e1 : told M to = acc := by rw [htold]; exact List.append_nil _
  have e2 : left M to = [] := hleft.symm
  rw [e1, e2] at H
  exact H _ _ _ _ hw2 ho1
 refine Yz 1 rfl ?_
 refine Wp.seq ?_
 refine Yg 3 rfl ?_
 refine OWp.part 28 rfl (fun cc4 => (by contradiction)) (fun cc4 => ?_)
 refine Ye 1 rfl ?_
 refine Yl m0 ?_
 refine Yz 3 rfl ?_
 refine Wp.cond rfl (fun h2 => ?_) (fun h2 => ?_)
 ·have h2 := of_decide_eq_true h2
  have hlate := left_all' hmin (show to < t.due by omega)
  refine Wp.exit ?_
  refine Yg 2 rfl ?_
  refine Yc rfl rfl (CallWp.permS ((List.Perm.swap _ _ _).trans (.cons _ List.perm_middle.symm)) (moveC rfl hB hw1 hle1 hto (fun u h => Nat.le_of_lt (hlate u h)) ?_))
  intro v' es' hw2
  refine OWp.nil ?_
  refine Yn 3 rfl ?_
  refine Wp.ret ⟨trivial, _, ⟨_, _, rfl, rfl, _, _, rfl, rfl, rfl⟩, ?_⟩
  refine ⟨_, .cons_cons _ ((List.Sublist.refl _).append (List.sublist_cons_self _ _)), ?_⟩
  have e1 : told M to = acc := by rw [htold, told_none hlate, List.append_nil]
  have e2 : left M to = N := by rw [← hleft, left_all hlate]
  rw [e1, e2] at H
  exact H _ _ _ _ hw2 ho1
 have h2 := of_decide_eq_false h2
 have hdto : t.due ≤ to := by omega
 have hft := hw1.fit t htm
 refine Wp.skip ?_
 refine Yg 2 rfl ?_
 refine Yl m0 ?_
 refine Yc rfl rfl (CallWp.permS ((List.Perm.swap _ _ _).trans (.cons _ List.perm_middle.symm)) (moveC rfl hB hw1 hft.1 hft.2 hmin ?_))
 intro v2 e2 hw2
 refine OWp.nil ?_
 refine Yg 1 rfl ?_
 refine Yc rfl rfl (dueC hB hw2 hp ?_)
 intro v3 e3 la lc de hw3 hl3
 have hstep := told_step (M := N) hdto hmin
 have hless := cut_less htm
 have hsum := filter_not_len (fun u : T => u.due == t.due) N
 obtain ⟨l, hll⟩ : ∃ l, l = N.filter (·.due == t.due) := ⟨_, rfl⟩
 obtain ⟨N2, hN2⟩ : ∃ N2, N2 = N.filter (fun u => !(u.due == t.due)) := ⟨_, rfl⟩
 have hleft2 : left N2 to = left M to := by rw [hN2, left_step hdto, hleft]
 rw [← hll] at hl3 hstep hsum ⊢
 rw [← hN2] at hw3 hstep hsum hless ⊢
 refine Yz 2 rfl ?_
 have hN2l := hw3.len
 refine Wp.permS (perm7 _ _ _ _ _ _) ?_
 refine Wp.block ?_
 refine Wp.loopS (α := Nat × Value × Ents) (fun z => l.length - z.1) (fun z => [(0, pt p), (1, .int .i64 (to : Int)), (6, z.2.1), (39, .slice la l.length lc), (40, .int .i64 (l.length : Int)), (41, .int .i64 (z.1 : Int))]) (fun z => z.2.2 ++ ((L7, cel (tc t) 144) :: (wE p v3 t.due put N2.length :: (flatE e3 448 ++ (de ++ R))))) (fun z => z.1 ≤ l.length ∧ Lg.Own B 3 1 z.2.1 (acc ++ (l.take z.1).map (·.id)).length ((acc ++ (l.take z.1).map (·.id)).map iv) z.2.2) (0, ov, oe) ?_ (.refl _) ⟨Nat.zero_le _, by simp only [List.take_zero, List.map_nil, List.append_nil]; exact ho1⟩ ?_
 ·exact .cons rfl (.cons rfl (.cons rfl (.cons rfl (.cons rfl (.cons rfl (.nil _))))))
 rintro ⟨i, ov2, oe2⟩ ⟨hi, ho2⟩
 simp only at hi ho2 ⊢
 refine Yn 1 rfl ?_
 refine Wp.seq ?_
 refine Wp.cond rfl (fun h3 => ?_) (fun h3 => ?_)
 ·have h3 := of_decide_eq_true h3
  have hi2 : i < l.length := by omega
  obtain ⟨b1, o1, c1, L, e, fz, hvl, hm, hat⟩ := timer_at hl3 (by omega)
  cases hvl
  have hal : (acc ++ (l.take i).map (·.id)).length ≤ 5000 := by rw [List.length_append, List.length_map, List.length_take]; omega
  refine Wp.skip ?_
  refine Wp.seq ?_
  refine Wp.block ?_
  refine Yq ?_
  refine OWp.g rfl rfl (Gives.indexAddrSlice (i) rfl rfl rfl rfl rfl rfl (by omega)) ?_
  refine OWp.load (List.mem_append_right _ (.tail _ (.tail _ (List.mem_append_right _ (List.mem_append_left _ hm))))) rfl rfl rfl rfl (hat i hi2) ?_
  refine Ya rfl rfl rfl rfl fun L10 hBL10 hLL10 => ?_
  refine OWp.step rfl (Step.storeAs 0 (tc l[i]) rfl rfl rfl rfl rfl hBL10 rfl (Unfz.zero _) rfl (Nat.le_of_ble_eq_true rfl) rfl rfl ?_)
  refine OWp.nil ?_
  refine Wp.region ?_
  refine Ye 2 rfl ?_
  refine Yl m0 ?_
  refine OWp.step rfl (Step.buildSlice rfl rfl rfl ?_); intro Lp5 hBLp5 hLLp5
  refine OWp.step rfl (Step.appendAt [_, _] rfl rfl rfl rfl rfl rfl (by decide) rfl rfl ho2 (Reads.row (k := 1) (sz := 1) (.head _) (Nat.le_of_ble_eq_true rfl)) rfl (by show (_ + 1) * 8 ≤ _; omega) (by unfold maxLen; omega) ?_); intro x e3' ho3 _
  refine OWp.dropAt 0 rfl ?_
  refine Yz 1 rfl ?_
  refine Wp.drop (List.sublist_cons_self _ _) ?_
  refine Wp.region ?_
  refine Yz 2 rfl ?_
  refine ⟨(i + 1, x, e3'), by simp only; omega, ⟨by simp only; omega, ?_⟩, .cons rfl (.cons rfl (.cons rfl (.cons rfl (.cons rfl (.cons' rfl (int_eq (i64_inc (by omega))) (.nil _)))))), .refl _⟩
  simp only
  rw [List.take_succ_eq_append_getElem hi2, List.map_append, ← List.append_assoc, List.length_append, List.map_append (l₁ := acc ++ _)]
  exact ho3
 have h3 := of_decide_eq_false h3
 obtain rfl : i = l.length := by omega
 rw [List.take_length] at ho2
 refine Wp.drop (S' := oe2 ++ (wE p v3 t.due put N2.length :: (flatE e3 448 ++ R))) ((List.Sublist.refl _).append (.cons _ (.cons_cons _ ((List.Sublist.refl _).append (List.sublist_append_right _ _))))) ?_
 refine Wp.exit ?_
 refine ⟨(acc ++ l.map (·.id), N2, t.due, ov2, oe2, v3, e3), hless, ⟨hw3, ho2, hdto, ?_, hleft2, ?_⟩, .cons rfl (.cons rfl (.cons rfl (.nil _))), .refl _⟩
 ·simp only
  rw [htold, hstep, List.append_assoc]
 ·simp only
  rw [List.length_append, List.length_map]
  omega
end
end Go.Proofs.E

namespace Go.Proofs.E
open Go.Lg Go.Whl
set_option maxRecDepth 100000

/-- The cells of whole numbers. -/
def zi (l : List Int) : List Value := l.map fun x => .int .i64 x
attribute [local irreducible] wv flatE tabM slotAt
section
variable {B : Nat} {S : Ents} {Q : Value → Ents → Prop}
theorem zi_get {l : List Int} {i : Nat} {x : Int} (h : l[i]? = some x) : (zi l)[i]? = some (.int .i64 x) := by simp [zi, h]
/-- A wheel in memory, as a whole. -/
def Wh (B p : Nat) (M : List T) (now put : Nat) (W : Ents) : Prop := B ≤ p ∧ ∃ v es, WOk B M now put v es ∧ W = wE p v now put M.length :: flatE es 448
theorem Wh.mem {p now put : Nat} {M : List T} {W : Ents} (h : Wh B p M now put W) : ∃ v, wE p v now put M.length ∈ W := by
 obtain ⟨_, v, es, _, rfl⟩ := h
 exact ⟨v, .head _⟩
theorem Wh.time {p now put : Nat} {M : List T} {W : Ents} (h : Wh B p M now put W) : now ≤ 1099511627776 := by obtain ⟨_, v, es, h, rfl⟩ := h; exact h.time
theorem Wh.len {p now put : Nat} {M : List T} {W : Ents} (h : Wh B p M now put W) : M.length ≤ 4096 := by obtain ⟨_, v, es, h, rfl⟩ := h; exact h.len
theorem Wh.nos {p now put : Nat} {M : List T} {W : Ents} (h : Wh B p M now put W) : M.Pairwise fun a b => a.no < b.no := by obtain ⟨_, v, es, h, rfl⟩ := h; exact h.nos
theorem Wh.low {p now put : Nat} {M : List T} {W : Ents} (h : Wh B p M now put W) : ∀ t ∈ M, t.no ≤ put := by obtain ⟨_, v, es, h, rfl⟩ := h; exact h.low
theorem Wh.fit {p now put : Nat} {M : List T} {W : Ents} (h : Wh B p M now put W) : ∀ t ∈ M, now ≤ t.due ∧ t.due ≤ 1099511627776 := by obtain ⟨_, v, es, h, rfl⟩ := h; exact h.fit

theorem newW (H : ∀ p W, Wh B p [] 0 0 W → Q (pt p) (W ++ S)) : CallWp Tryz.prog B 30 #[] Q S := by
 refine newC fun p hp => ?_
 have h := H p [wE p (fun _ => .slice none 0 0) 0 0 0] ⟨hp, _, _, wOk_new B, by rw [flatE_nil, List.length_nil]⟩
 exact h
theorem putW {p now put a : Nat} {M : List T} {W : Ents} {za id : Int} (hza : za = (a : Int)) (h : Wh B p M now put W) (ha : now < a) (ha2 : a ≤ 1099511627776) (hl : M.length < 4096) (hp : put ≤ 1099511627776)
  (H : ∀ W', Wh B p (M ++ [⟨a, id, put + 1⟩]) now (put + 1) W' → Q (.tuple #[.int .i64 ((put + 1 : Nat) : Int), .int .i64 0]) (W' ++ S)) :
  CallWp Tryz.prog B 40 #[pt p, .int .i64 za, .int .i64 id] Q (W ++ S) := by
 obtain ⟨hB, v, es, hw, rfl⟩ := h
 refine putOkC hza hB hw ha ha2 hl hp fun v' es' hw' => ?_
 have h := H (wE p v' now (put + 1) (M.length + 1) :: flatE es' 448) ⟨hB, v', es', hw', by rw [List.length_append]; rfl⟩
 exact h
theorem nowW {p now put : Nat} {M : List T} {W : Ents} (h : Wh B p M now put W) (hs : ∀ x ∈ W, x ∈ S) (H : Q (.int .i64 (now : Int)) S) : CallWp Tryz.prog B 78 #[pt p] Q S := by
 obtain ⟨v, hm⟩ := h.mem
 exact nowC (hs _ hm) H
theorem advW {p now put to : Nat} {M : List T} {W : Ents} {zt : Int} (hzt : zt = (to : Int)) (h : Wh B p M now put W) (hp : put ≤ 1099511627776) (hle : now ≤ to) (hto : to ≤ 1099511627776)
  (H : ∀ W' ov oe, Wh B p (left M to) to put W' → Lg.Own B 3 1 ov (told M to).length (zi (told M to)) oe → Q (.tuple #[ov, .int .i64 0]) (W' ++ (oe ++ S))) :
  CallWp Tryz.prog B 28 #[pt p, .int .i64 zt] Q (W ++ S) := by
 obtain ⟨hB, v, es, hw, rfl⟩ := h
 refine advC hzt hB hw hp hle hto fun v' es' ov oe hw' ho => ?_
 have h := H (wE p v' to put (left M to).length :: flatE es' 448) ov oe ⟨hB, v', es', hw', rfl⟩ ho
 exact h
theorem told_len {M : List T} {to : Nat} (h : ∀ t ∈ M, t.due ≤ to) : (told M to).length = M.length := by
 unfold told
 rw [List.length_map, List.filter_eq_self.2 (fun t ht => by simpa using h t (mem_srt.1 ht)), srt_len]
theorem left_none {M : List T} {to : Nat} (h : ∀ t ∈ M, t.due ≤ to) : left M to = [] := by
 unfold left
 rw [List.filter_eq_nil_iff]
 intro t ht
 have := h t ht
 simp; omega

def Ms : List T := [⟨5, 1, 1⟩, ⟨3, 2, 2⟩, ⟨5, 3, 3⟩]
end
end Go.Proofs.E

namespace Go.Proofs.D
open Go.Lg Go.Cv
set_option maxRecDepth 100000
/-- Four elements that stand for a state of the ladder. -/
structure Quad where
 x2 : El
 z2 : El
 x3 : El
 z3 : El
def Quad.is (w : Quad) (s : Four) : Prop := w.x2.is s.x2 ∧ w.z2.is s.z2 ∧ w.x3.is s.x3 ∧ w.z3.is s.z3
def Quad.swap (w : Quad) : Quad := ⟨w.x3, w.z3, w.x2, w.z2⟩
theorem Quad.is_swap {w : Quad} {s : Four} (h : w.is s) : w.swap.is s.swap := ⟨h.2.2.1, h.2.2.2, h.1, h.2.1⟩
abbrev prow (b : Nat) (x z : El) : Nat × Obj := (b, cel (ptc x z) 264)
theorem addq_comm (a b : Nat) : addq a b = addq b a := by unfold addq; rw [Nat.add_comm]
theorem mulq_comm (a b : Nat) : mulq a b = mulq b a := by unfold mulq; rw [Nat.mul_comm]
theorem el_cpart (x : El) : Lg.partAt Tryz.prog 241 x.cells 0 = some (.agg x.cells.toArray) := rfl
section
variable {B b : Nat} {S R : Ents} {Q : Value → Ents → Prop} {x y z : El} {t : TypeId} {pa pb : Value}
set_option maxHeartbeats 8000000 in
theorem stepC {pb qb n : Nat} {u : El} {w : Quad} {s : Four} (hP : B ≤ pb) (hQ : B ≤ qb) (hu : PEl R pa u) (huo : u.is n) (hw : w.is s)
  (H : ∀ v : Quad, v.is (lstep n s) → Q (.tuple #[]) (prow pb v.x2 v.z2 :: prow qb v.x3 v.z3 :: R)) :
  CallWp Tryz.prog B 168 #[pa, .pointer (some ⟨pb, 0, none⟩), .pointer (some ⟨qb, 0, none⟩)] Q (prow pb w.x2 w.z2 :: prow qb w.x3 w.z3 :: R) := by
 obtain ⟨x2, z2, x3, z3⟩ := w
 obtain ⟨h1, h2, h3, h4⟩ := hw
 simp only at h1 h2 h3 h4
 obtain ⟨ub, uo, uL, ut, uf, rfl, hum, hug⟩ := hu
 refine subRet ?_
 refine Yx (args := [_, _, _]) Tryz.func168 Tryz.ntmps168 ?_
 refine Yg 1 rfl ?_
 refine Yc rfl rfl (sumsR (.head _) h1 h2 ?_)
 intro sm df hsm hdf
 refine Ye 3 rfl ?_
 refine Ya rfl rfl rfl rfl fun L6 hBL6 hLL6 => ?_
 refine Ya rfl rfl rfl rfl fun L7 hBL7 hLL7 => ?_
 refine OWp.step rfl (Step.storeAs 1 (sm.cells) rfl rfl rfl rfl rfl (by assumption) rfl (Unfz.zero _) rfl (Nat.le_of_ble_eq_true rfl) rfl rfl ?_)
 refine OWp.step rfl (Step.storeAs 0 (df.cells) rfl rfl rfl rfl rfl (by assumption) rfl (Unfz.zero _) rfl (Nat.le_of_ble_eq_true rfl) rfl rfl ?_)
 refine OWp.nil ?_
 show Wp _ _ _ _ _ _ ((L7, cel (df.cells) 241) :: (L6, cel (sm.cells) 241) :: (pb, cel (ptc x2 z2) 264) :: (qb, cel (ptc x3 z3) 264) :: R)
 refine Yg 1 rfl ?_
 refine Yc rfl rfl (sumsR (.tail _ (.tail _ (.tail _ (.head _)))) h3 h4 ?_)
 intro cb0 da0 hcb0 hda0
 refine Ye 3 rfl ?_
 refine Ya rfl rfl rfl rfl fun L8 hBL8 hLL8 => ?_
 refine Ya rfl rfl rfl rfl fun L9 hBL9 hLL9 => ?_
 refine OWp.step rfl (Step.storeAs 1 (cb0.cells) rfl rfl rfl rfl rfl (by assumption) rfl (Unfz.zero _) rfl (Nat.le_of_ble_eq_true rfl) rfl rfl ?_)
 refine OWp.step rfl (Step.storeAs 0 (da0.cells) rfl rfl rfl rfl rfl (by assumption) rfl (Unfz.zero _) rfl (Nat.le_of_ble_eq_true rfl) rfl rfl ?_)
 refine OWp.nil ?_
 show Wp _ _ _ _ _ _ ((L9, cel (da0.cells) 241) :: (L8, cel (cb0.cells) 241) :: (L7, cel (df.cells) 241) :: (L6, cel (sm.cells) 241) :: (pb, cel (ptc x2 z2) 264) :: (qb, cel (ptc x3 z3) 264) :: R)
 refine Yq ?_
 refine Yc rfl rfl (CallWp.focus 0 rfl ((byR (p := []) (s := []) hBL9 (PEl.own (.tail _ (.tail _ (.tail _ (.head _))))) hda0 hsm ?_)))
 intro da hda
 refine OWp.nil ?_
 show Wp _ _ _ _ _ _ ((L9, cel (da.cells) 241) :: (L8, cel (cb0.cells) 241) :: (L7, cel (df.cells) 241) :: (L6, cel (sm.cells) 241) :: (pb, cel (ptc x2 z2) 264) :: (qb, cel (ptc x3 z3) 264) :: R)
 refine Yq ?_
 refine Yc rfl rfl (CallWp.focus 1 rfl ((byR (p := []) (s := []) hBL8 (PEl.own (.tail _ (.tail _ (.head _)))) hcb0 hdf ?_)))
 intro cb hcb
 refine OWp.nil ?_
 show Wp _ _ _ _ _ _ ((L8, cel (cb.cells) 241) :: (L9, cel (da.cells) 241) :: (L7, cel (df.cells) 241) :: (L6, cel (sm.cells) 241) :: (pb, cel (ptc x2 z2) 264) :: (qb, cel (ptc x3 z3) 264) :: R)
 refine Yq ?_
 refine Yc rfl rfl (CallWp.focus 3 rfl ((squareR (p := []) (s := []) hBL6 hsm ?_)))
 intro aa haa
 refine OWp.nil ?_
 show Wp _ _ _ _ _ _ ((L6, cel (aa.cells) 241) :: (L8, cel (cb.cells) 241) :: (L9, cel (da.cells) 241) :: (L7, cel (df.cells) 241) :: (pb, cel (ptc x2 z2) 264) :: (qb, cel (ptc x3 z3) 264) :: R)
 refine Yq ?_
 refine Yc rfl rfl (CallWp.focus 3 rfl ((squareR (p := []) (s := []) hBL7 hdf ?_)))
 intro bb hbb
 refine OWp.nil ?_
 show Wp _ _ _ _ _ _ ((L7, cel (bb.cells) 241) :: (L6, cel (aa.cells) 241) :: (L8, cel (cb.cells) 241) :: (L9, cel (da.cells) 241) :: (pb, cel (ptc x2 z2) 264) :: (qb, cel (ptc x3 z3) 264) :: R)
 refine Yq ?_
 refine Ya rfl rfl rfl rfl fun L10 hBL10 hLL10 => ?_
 refine Ya rfl rfl rfl rfl fun L11 hBL11 hLL11 => ?_
 refine OWp.nil ?_
 show Wp _ _ _ _ _ _ ((L11, cel (El.zero.cells) 241) :: (L10, cel (El.zero.cells) 241) :: (L7, cel (bb.cells) 241) :: (L6, cel (aa.cells) 241) :: (L8, cel (cb.cells) 241) :: (L9, cel (da.cells) 241) :: (pb, cel (ptc x2 z2) 264) :: (qb, cel (ptc x3 z3) 264) :: R)
 refine Yg 3 rfl ?_
 refine Yc rfl rfl (CallWp.focus 1 rfl ((minusR (p := []) (s := []) (z := El.zero) hBL10 (PEl.own (.tail _ (.tail _ (.tail _ (.head _))))) (PEl.own (.tail _ (.tail _ (.head _)))) haa hbb ?_)))
 intro ee hee
 refine OWp.nil ?_
 show Wp _ _ _ _ _ _ ((L10, cel (ee.cells) 241) :: (L11, cel (El.zero.cells) 241) :: (L7, cel (bb.cells) 241) :: (L6, cel (aa.cells) 241) :: (L8, cel (cb.cells) 241) :: (L9, cel (da.cells) 241) :: (pb, cel (ptc x2 z2) 264) :: (qb, cel (ptc x3 z3) 264) :: R)
 refine Yg 1 rfl ?_
 refine OWp.load (.tail _ (.tail _ (.tail _ (.head _)))) rfl rfl rfl rfl (el_cpart _) ?_
 refine Ye 2 rfl ?_
 refine OWp.step rfl (Step.storeAs 6 (ptc aa z2) rfl rfl rfl rfl rfl (by assumption) rfl (Unfz.zero _) rfl (Nat.le_of_ble_eq_true rfl) rfl rfl ?_)
 refine OWp.nil ?_
 show Wp _ _ _ _ _ _ ((L10, cel (ee.cells) 241) :: (L11, cel (El.zero.cells) 241) :: (L7, cel (bb.cells) 241) :: (L6, cel (aa.cells) 241) :: (L8, cel (cb.cells) 241) :: (L9, cel (da.cells) 241) :: (pb, cel (ptc aa z2) 264) :: (qb, cel (ptc x3 z3) 264) :: R)
 refine Yg 3 rfl ?_
 refine Yc rfl rfl (CallWp.focus 6 rfl ((byR (p := []) (s := z2.cells) hP (PEl.own (.tail _ (.tail _ (.tail _ (.head _))))) haa hbb ?_)))
 intro nx hnx
 refine OWp.nil ?_
 show Wp _ _ _ _ _ _ ((pb, cel (ptc nx z2) 264) :: (L10, cel (ee.cells) 241) :: (L11, cel (El.zero.cells) 241) :: (L7, cel (bb.cells) 241) :: (L6, cel (aa.cells) 241) :: (L8, cel (cb.cells) 241) :: (L9, cel (da.cells) 241) :: (qb, cel (ptc x3 z3) 264) :: R)
 refine Yq ?_
 refine Yc rfl rfl (smallR (n := 121665) (by decide) ?_)
 intro k0 hk0
 refine OWp.step rfl (Step.storeAs 2 (k0.cells) rfl rfl rfl rfl rfl (by assumption) rfl (Unfz.zero _) rfl (Nat.le_of_ble_eq_true rfl) rfl rfl ?_)
 refine OWp.nil ?_
 show Wp _ _ _ _ _ _ ((pb, cel (ptc nx z2) 264) :: (L10, cel (ee.cells) 241) :: (L11, cel (k0.cells) 241) :: (L7, cel (bb.cells) 241) :: (L6, cel (aa.cells) 241) :: (L8, cel (cb.cells) 241) :: (L9, cel (da.cells) 241) :: (qb, cel (ptc x3 z3) 264) :: R)
 refine Yq ?_
 refine Yc rfl rfl (CallWp.focus 2 rfl ((byR (p := []) (s := []) hBL11 (PEl.own (.tail _ (.tail _ (.head _)))) hk0 hee ?_)))
 intro f1 hf1
 refine OWp.nil ?_
 show Wp _ _ _ _ _ _ ((L11, cel (f1.cells) 241) :: (pb, cel (ptc nx z2) 264) :: (L10, cel (ee.cells) 241) :: (L7, cel (bb.cells) 241) :: (L6, cel (aa.cells) 241) :: (L8, cel (cb.cells) 241) :: (L9, cel (da.cells) 241) :: (qb, cel (ptc x3 z3) 264) :: R)
 refine Yg 3 rfl ?_
 refine Yc rfl rfl (CallWp.focus 0 rfl ((plusR (p := []) (s := []) (z := f1) hBL11 (PEl.own (.head _)) (PEl.own (.tail _ (.tail _ (.tail _ (.tail _ (.head _)))))) hf1 haa ?_)))
 intro ff hff
 refine OWp.nil ?_
 show Wp _ _ _ _ _ _ ((L11, cel (ff.cells) 241) :: (pb, cel (ptc nx z2) 264) :: (L10, cel (ee.cells) 241) :: (L7, cel (bb.cells) 241) :: (L6, cel (aa.cells) 241) :: (L8, cel (cb.cells) 241) :: (L9, cel (da.cells) 241) :: (qb, cel (ptc x3 z3) 264) :: R)
 refine Yg 1 rfl ?_
 refine OWp.load (.tail _ (.tail _ (.head _))) rfl rfl rfl rfl (el_cpart _) ?_
 refine Ye 2 rfl ?_
 refine OWp.step rfl (Step.storeAs 1 (ptc nx ee) rfl rfl rfl rfl rfl (by assumption) rfl (Unfz.zero _) rfl (Nat.le_of_ble_eq_true rfl) rfl rfl ?_)
 refine OWp.nil ?_
 show Wp _ _ _ _ _ _ ((L11, cel (ff.cells) 241) :: (pb, cel (ptc nx ee) 264) :: (L10, cel (ee.cells) 241) :: (L7, cel (bb.cells) 241) :: (L6, cel (aa.cells) 241) :: (L8, cel (cb.cells) 241) :: (L9, cel (da.cells) 241) :: (qb, cel (ptc x3 z3) 264) :: R)
 refine Yg 3 rfl ?_
 refine Yc rfl rfl (CallWp.focus 1 rfl ((byR (p := nx.cells) (s := []) hP (PEl.own (.tail _ (.head _))) hee hff ?_)))
 intro nz hnz
 refine OWp.nil ?_
 show Wp _ _ _ _ _ _ ((pb, cel (ptc nx nz) 264) :: (L11, cel (ff.cells) 241) :: (L10, cel (ee.cells) 241) :: (L7, cel (bb.cells) 241) :: (L6, cel (aa.cells) 241) :: (L8, cel (cb.cells) 241) :: (L9, cel (da.cells) 241) :: (qb, cel (ptc x3 z3) 264) :: R)
 refine Yg 6 rfl ?_
 refine Yc rfl rfl (CallWp.focus 7 rfl ((plusR (p := []) (s := z3.cells) (z := x3) hQ (PEl.own (.tail _ (.tail _ (.tail _ (.tail _ (.tail _ (.tail _ (.tail _ (.head _))))))))) (PEl.own (.tail _ (.tail _ (.tail _ (.tail _ (.tail _ (.tail _ (.head _)))))))) hda hcb ?_)))
 intro pl hpl
 refine OWp.nil ?_
 show Wp _ _ _ _ _ _ ((qb, cel (ptc pl z3) 264) :: (pb, cel (ptc nx nz) 264) :: (L11, cel (ff.cells) 241) :: (L10, cel (ee.cells) 241) :: (L7, cel (bb.cells) 241) :: (L6, cel (aa.cells) 241) :: (L8, cel (cb.cells) 241) :: (L9, cel (da.cells) 241) :: R)
 refine Yg 3 rfl ?_
 refine Yc rfl rfl (CallWp.focus 0 rfl ((squareR (p := []) (s := z3.cells) hQ hpl ?_)))
 intro px hpx
 refine OWp.nil ?_
 show Wp _ _ _ _ _ _ ((qb, cel (ptc px z3) 264) :: (pb, cel (ptc nx nz) 264) :: (L11, cel (ff.cells) 241) :: (L10, cel (ee.cells) 241) :: (L7, cel (bb.cells) 241) :: (L6, cel (aa.cells) 241) :: (L8, cel (cb.cells) 241) :: (L9, cel (da.cells) 241) :: R)
 refine Yg 6 rfl ?_
 refine Yc rfl rfl (CallWp.focus 0 rfl ((minusR (p := px.cells) (s := []) (z := z3) hQ (PEl.own (.tail _ (.tail _ (.tail _ (.tail _ (.tail _ (.tail _ (.tail _ (.head _))))))))) (PEl.own (.tail _ (.tail _ (.tail _ (.tail _ (.tail _ (.tail _ (.head _)))))))) hda hcb ?_)))
 intro mi hmi
 refine OWp.nil ?_
 show Wp _ _ _ _ _ _ ((qb, cel (ptc px mi) 264) :: (pb, cel (ptc nx nz) 264) :: (L11, cel (ff.cells) 241) :: (L10, cel (ee.cells) 241) :: (L7, cel (bb.cells) 241) :: (L6, cel (aa.cells) 241) :: (L8, cel (cb.cells) 241) :: (L9, cel (da.cells) 241) :: R)
 refine Yg 3 rfl ?_
 refine Yc rfl rfl (CallWp.focus 0 rfl ((squareR (p := px.cells) (s := []) hQ hmi ?_)))
 intro ms hms
 refine OWp.nil ?_
 show Wp _ _ _ _ _ _ ((qb, cel (ptc px ms) 264) :: (pb, cel (ptc nx nz) 264) :: (L11, cel (ff.cells) 241) :: (L10, cel (ee.cells) 241) :: (L7, cel (bb.cells) 241) :: (L6, cel (aa.cells) 241) :: (L8, cel (cb.cells) 241) :: (L9, cel (da.cells) 241) :: R)
 refine Wp.region ?_
 refine Ye 4 rfl ?_
 refine Yc rfl rfl (CallWp.focus 0 rfl ((byR (p := px.cells) (s := []) hQ ⟨ub, uo, uL, ut, uf, rfl, (.tail _ (.tail _ (.tail _ (.tail _ (.tail _ (.tail _ (.tail _ (.tail _ hum)))))))), hug⟩ hms huo ?_)))
 intro pz hpz
 have hv : (⟨nx, nz, px, pz⟩ : Quad).is (lstep n s) := by
  refine ⟨hnx, ?_, hpx, ?_⟩
  ·rw [addq_comm (mulq 121665 _)] at hnz; exact hnz
  ·rw [mulq_comm] at hpz; exact hpz
 refine OWp.nil ?_
 refine ⟨trivial, [], rfl, ?_⟩
 refine ⟨_, prow pb nx nz :: prow qb px pz :: R, permBy [[(qb, cel (ptc px pz) 264)], [(pb, cel (ptc nx nz) 264)], [(L11, cel (ff.cells) 241)], [(L10, cel (ee.cells) 241)], [(L7, cel (bb.cells) 241)], [(L6, cel (aa.cells) 241)], [(L8, cel (cb.cells) 241)], [(L9, cel (da.cells) 241)]] R [0, 1, 2, 3, 4, 5, 6, 7] [1, 0, 2, 3, 4, 5, 6, 7] (by decide), .cons_cons _ (.cons_cons _ (.cons _ (.cons _ (.cons _ (.cons _ (.cons _ (.cons _ (.refl _)))))))), H ⟨nx, nz, px, pz⟩ hv⟩
end
end Go.Proofs.D

namespace Go.Proofs.D
open Go.Lg Go.Cv
set_option maxRecDepth 100000

/-- A scalar's bytes, clamped. -/
def clampL (k : List UInt8) : List UInt8 := (k.set 0 (UInt8.ofNat ((k.getD 0 0).toNat / 8 * 8))).set 31 (UInt8.ofNat ((k.getD 31 0).toNat % 64 + 64))
theorem and248 (n : Nat) (h : n < 256) : bits .and .u8 (n : Int) 248 = ((n / 8 * 8 : Nat) : Int) := by
 have : ∀ n : Fin 256, bits .and .u8 ((n.val : Nat) : Int) 248 = ((n.val / 8 * 8 : Nat) : Int) := by decide +kernel
 exact this ⟨n, h⟩
theorem and127or64 (n : Nat) (h : n < 256) : bits .or .u8 (bits .and .u8 (n : Int) 127) 64 = ((n % 64 + 64 : Nat) : Int) := by
 have : ∀ n : Fin 256, bits .or .u8 (bits .and .u8 ((n.val : Nat) : Int) 127) 64 = ((n.val % 64 + 64 : Nat) : Int) := by decide +kernel
 exact this ⟨n, h⟩
theorem and1 (n r : Nat) (h : n < 256) (hr : r < 8) : bits .and .u8 ((n : Int).fdiv (2 ^ (min r IntKind.u8.bits))) 1 = if n.testBit r then 1 else 0 := by
 have : ∀ (n : Fin 256) (r : Fin 8), bits .and .u8 (((n.val : Nat) : Int).fdiv (2 ^ (min r.val IntKind.u8.bits))) 1 = if n.val.testBit r.val then 1 else 0 := by decide +kernel
 exact this ⟨n, h⟩ ⟨r, hr⟩
theorem leNat_testBit : ∀ (l : List UInt8) (t : Nat), (leNat l).testBit t = (l.getD (t / 8) 0).toNat.testBit (t % 8)
 | [], t => by simp [leNat]
 | b :: l, t => by
  have hb := b.toNat_lt
  rw [leNat, Nat.add_comm, show 256 = 2 ^ 8 from rfl, Nat.testBit_two_pow_mul_add _ (by exact hb)]
  split
  ·rename_i h
   rw [show t / 8 = 0 by omega, show t % 8 = t by omega]
   rfl
  ·rename_i h
   rw [leNat_testBit l (t - 8), show t / 8 = (t - 8) / 8 + 1 by omega, show t % 8 = (t - 8) % 8 by omega]
   rfl
theorem leNat_clamp {k : List UInt8} (h : k.length = 32) : leNat (clampL k) = clampN k := by
 obtain ⟨a, k1, rfl⟩ : ∃ a k1, k = a :: k1 := by
  cases k with
  | nil => simp at h
  | cons a k1 => exact ⟨a, k1, rfl⟩
 have h1 : k1.length = 31 := by simpa using h
 have e : k1 = k1.take 30 ++ [k1.getD 30 0] := by
  have h30 : 30 < k1.length := by omega
  rw [List.getD_eq_getElem?_getD, List.getElem?_eq_getElem h30]
  show _ = _ ++ [k1[30]]
  rw [← List.take_succ_eq_append_getElem h30, List.take_of_length_le (by omega)]
 obtain ⟨m, hm⟩ : ∃ m, m = k1.take 30 := ⟨_, rfl⟩
 obtain ⟨z, hz⟩ : ∃ z, z = k1.getD 30 0 := ⟨_, rfl⟩
 rw [← hm, ← hz] at e
 have hml : m.length = 30 := by rw [hm, List.length_take]; omega
 subst e
 have hc : clampL (a :: (m ++ [z])) = UInt8.ofNat (a.toNat / 8 * 8) :: (m ++ [UInt8.ofNat (z.toNat % 64 + 64)]) := by
  unfold clampL
  have hg : (a :: (m ++ [z])).getD 31 0 = z := by rw [List.getD_cons_succ, List.getD_eq_getElem?_getD, List.getElem?_append_right (by omega), hml]; rfl
  rw [hg]
  simp [hml]
 rw [hc]
 have ha := a.toNat_lt
 have hzl := z.toNat_lt
 have hmb := leNat_lt m
 rw [hml] at hmb
 unfold clampN
 simp only [leNat, leNat_append, hml, UInt8.toNat_ofNat']
 have e1 : (256 : Nat) ^ 30 = 1766847064778384329583297500742918515827483896875618958121606201292619776 := by decide
 rw [e1] at hmb ⊢
 generalize leNat m = M at *
 generalize a.toNat = A at *
 generalize z.toNat = Z at *
 simp only [show (2 : Nat) ^ 8 = 256 from rfl, show (2 : Nat) ^ 254 = 28948022309329048855892746252171976963317496166410141009864396001978282409984 from rfl, Nat.mul_zero, Nat.add_zero]
 omega
theorem clampL_len {k : List UInt8} (h : k.length = 32) : (clampL k).length = 32 := by simp [clampL, h]
theorem invq_of {a b : Nat} (h : a % q = b % q) : invq a = invq b := by
 rw [← Nat.mod_eq_of_lt (invq_lt a), ← Nat.mod_eq_of_lt (invq_lt b), invq_eq, invq_eq, Nat.pow_mod, h, ← Nat.pow_mod]
end Go.Proofs.D

namespace Go.Proofs.D
open Go.Lg Go.Sha
set_option maxRecDepth 100000

theorem or_low {a b i : Nat} (h : a < 2 ^ i) : a ||| b * 2 ^ i = a + b * 2 ^ i := by
 rw [Nat.or_comm, Nat.add_comm, Nat.mul_comm, Nat.two_pow_add_eq_or_of_lt h]
theorem u8_u32 (x : UInt8) : IntKind.u32.wrap (x.toNat : Int) = (x.toNat : Int) := by
 have := x.toNat_lt
 rw [IntKind.wrap_u32]; omega
theorem shl_u32 (x : UInt8) (k : Nat) (hk : k ≤ 24) : IntKind.u32.wrap ((x.toNat : Int) * 2 ^ (min k IntKind.u32.bits)) = ((x.toNat * 2 ^ k : Nat) : Int) := by
 have h1 := x.toNat_lt
 have h2 : min k IntKind.u32.bits = k := by show min k 32 = k; omega
 have h3 : x.toNat * 2 ^ k < 4294967296 := by
  have := Nat.mul_le_mul (show x.toNat ≤ 255 by omega) (Nat.pow_le_pow_right (show 0 < 2 by decide) hk)
  omega
 rw [h2]
 have e : (x.toNat : Int) * 2 ^ k = ((x.toNat * 2 ^ k : Nat) : Int) := by simp
 rw [e, IntKind.wrap_u32]
 omega
theorem word_eq (a b c d : UInt8) (r : List UInt8) : bits .or .u32 (bits .or .u32 (bits .or .u32 (IntKind.u32.wrap (a.toNat : Int)) (IntKind.u32.wrap (IntKind.u32.wrap (b.toNat : Int) * 2 ^ (min 8 IntKind.u32.bits)))) (IntKind.u32.wrap (IntKind.u32.wrap (c.toNat : Int) * 2 ^ (min 16 IntKind.u32.bits)))) (IntKind.u32.wrap (IntKind.u32.wrap (d.toNat : Int) * 2 ^ (min 24 IntKind.u32.bits))) = ((le (a :: b :: c :: d :: r) : Nat) : Int) := by
 have h1 := a.toNat_lt
 have h2 := b.toNat_lt
 have h3 := c.toNat_lt
 have h4 := d.toNat_lt
 rw [u8_u32, u8_u32, u8_u32, u8_u32, shl_u32 b 8 (by decide), shl_u32 c 16 (by decide), shl_u32 d 24 (by decide)]
 rw [Go.Lg.u32_or (by omega) (by omega), or_low (by omega), Go.Lg.u32_or (by omega) (by omega), or_low (by omega), Go.Lg.u32_or (by omega) (by omega), or_low (by omega)]
 rfl

section
variable {B : Nat} {S R : Ents} {Q : Value → Ents → Prop}

theorem wordC {s : List UInt8} (hs : 4 ≤ s.length) (H : Q (.int .u32 (le s : Nat)) S) :
  CallWp Tryz.prog B 225 #[.string (str s)] Q S := by
 obtain ⟨a, b, c, d, r, rfl⟩ : ∃ a b c d r, s = a :: b :: c :: d :: r := by
  match s, hs with
  | a :: b :: c :: d :: r, _ => exact ⟨a, b, c, d, r, rfl⟩
 refine Yx (args := [_]) Tryz.func225 Tryz.ntmps225 ?_
 refine Yn 1 rfl ?_
 refine Wp.seq (Wp.regionDraw [0, 1, 2, 3, 4, 5, 6, 7, 8, 9, 10, 11, 12, 13, 14, 15, 16, 17, 18] [] rfl (by decide +kernel) ?_)
 refine DWp.evs 1 rfl ?_
 refine DWp.g rfl rfl rfl rfl (Gives.indexStr (b := a) rfl rfl rfl rfl (by decide) rfl) ?_
 refine DWp.evs 2 rfl ?_
 refine DWp.g rfl rfl rfl rfl (Gives.indexStr (b := b) rfl rfl rfl rfl (by decide) rfl) ?_
 refine DWp.evs 4 rfl ?_
 refine DWp.g rfl rfl rfl rfl (Gives.indexStr (b := c) rfl rfl rfl rfl (by decide) rfl) ?_
 refine DWp.evs 4 rfl ?_
 refine DWp.g rfl rfl rfl rfl (Gives.indexStr (b := d) rfl rfl rfl rfl (by decide) rfl) ?_
 refine DWp.evs 4 rfl ?_
 refine DWp.nil ?_
 refine Wp.ret ⟨trivial, _, ⟨_, _, rfl, rfl, rfl⟩, ?_⟩
 rw [word_eq a b c d r]; exact H
theorem rlC {x n : Nat} {v k : Int} (hv : v = (x : Int)) (hx : x < 4294967296) (hn : n ≤ 32) (hk : bits .and .u64 (IntKind.u64.wrap k) 31 = (n : Int)) (h : Q (.int .u32 (rl x n : Nat)) S) :
  CallWp Tryz.prog B 223 #[.int .u32 v, .int .i64 k] Q S := by
 subst hv
 exact rotC hx hk (show n + (32 - n) = 32 by omega) h

theorem rl_lt {x n : Nat} (hx : x < 4294967296) (hn : n ≤ 32) : rl x n < 4294967296 := by
 obtain ⟨m, hm⟩ : ∃ m, n + m = 32 := ⟨32 - n, by omega⟩
 have em : 32 - n = m := by omega
 unfold rl
 rw [em]
 have hlt : x / 2 ^ m < 2 ^ n := by
  rw [Nat.div_lt_iff_lt_mul (Nat.two_pow_pos m), ← Nat.pow_add, hm]; exact hx
 have hp : (4294967296 : Nat) = 2 ^ n * 2 ^ m := by rw [← Nat.pow_add, hm]
 have hmod : x * 2 ^ n % 4294967296 = 2 ^ n * (x % 2 ^ m) := by
  rw [hp, Nat.mul_comm x, Nat.mul_mod_mul_left]
 have hz := Nat.mod_lt x (Nat.two_pow_pos m)
 rw [hmod]
 have : 2 ^ n * (x % 2 ^ m + 1) ≤ 2 ^ n * 2 ^ m := Nat.mul_le_mul_left _ hz
 rw [Nat.mul_add, Nat.mul_one, ← hp] at this
 omega
theorem add_lt (x y : Nat) : add x y < 4294967296 := Nat.mod_lt _ (by decide)

theorem quarterC {a b c d : Nat} (_ha : a < 4294967296) (hb : b < 4294967296) (_hc : c < 4294967296) (hd : d < 4294967296)
  (H : Q (.tuple #[.int .u32 ((quarter a b c d).1 : Nat), .int .u32 ((quarter a b c d).2.1 : Nat), .int .u32 ((quarter a b c d).2.2.1 : Nat), .int .u32 ((quarter a b c d).2.2.2 : Nat)]) S) :
  CallWp Tryz.prog B 234 #[.int .u32 (a : Int), .int .u32 (b : Int), .int .u32 (c : Int), .int .u32 (d : Int)] Q S := by
 have r : ∀ x n, x < 4294967296 → n ≤ 32 → rl x n < 4294967296 := fun x n => rl_lt
 have x32 : ∀ a b, a < 4294967296 → b < 4294967296 → a ^^^ b < 4294967296 := fun a b => xor_lt32
 obtain ⟨a1, ea1⟩ : ∃ a1, a1 = add a b := ⟨_, rfl⟩
 have ha1 : a1 < 4294967296 := ea1 ▸ add_lt _ _
 obtain ⟨d1, ed1⟩ : ∃ d1, d1 = rl (d ^^^ a1) 16 := ⟨_, rfl⟩
 have hd1 : d1 < 4294967296 := ed1 ▸ r _ _ (x32 _ _ hd ha1) (by decide)
 obtain ⟨c1, ec1⟩ : ∃ c1, c1 = add c d1 := ⟨_, rfl⟩
 have hc1 : c1 < 4294967296 := ec1 ▸ add_lt _ _
 obtain ⟨b1, eb1⟩ : ∃ b1, b1 = rl (b ^^^ c1) 12 := ⟨_, rfl⟩
 have hb1 : b1 < 4294967296 := eb1 ▸ r _ _ (x32 _ _ hb hc1) (by decide)
 obtain ⟨a2, ea2⟩ : ∃ a2, a2 = add a1 b1 := ⟨_, rfl⟩
 have ha2 : a2 < 4294967296 := ea2 ▸ add_lt _ _
 obtain ⟨d2, ed2⟩ : ∃ d2, d2 = rl (d1 ^^^ a2) 8 := ⟨_, rfl⟩
 have hd2 : d2 < 4294967296 := ed2 ▸ r _ _ (x32 _ _ hd1 ha2) (by decide)
 obtain ⟨c2, ec2⟩ : ∃ c2, c2 = add c1 d2 := ⟨_, rfl⟩
 have hc2 : c2 < 4294967296 := ec2 ▸ add_lt _ _
 obtain ⟨b2, eb2⟩ : ∃ b2, b2 = rl (b1 ^^^ c2) 7 := ⟨_, rfl⟩
 have hq : quarter a b c d = (a2, b2, c2, d2) := by
  rw [eb2, ec2, ed2, ea2, eb1, ec1, ed1, ea1]; rfl
 rw [hq] at H
 refine Yx (args := [_, _, _, _]) Tryz.func234 Tryz.ntmps234 ?_
 refine Yn 4 rfl ?_
 refine Yn 4 rfl ?_
 refine Wp.weaken (E' := [(0, .int .u32 (a1 : Int)), (1, .int .u32 (b : Int)), (2, .int .u32 (c : Int)), (3, .int .u32 (d : Int))]) (.cons' rfl (int_eq (by rw [u32_add, ea1]; rfl)) (.cons rfl (.cons rfl (.cons rfl (.nil _))))) (fun _ h => h) ?_
 refine Yg 3 rfl ?_
 refine Yc rfl rfl (rlC (n := 16) (Go.Lg.u32_xor hd ha1) (x32 _ _ hd ha1) (by decide) (by decide +kernel) ?_)
 rw [← ed1]
 refine Yz 1 rfl ?_
 refine Yn 4 rfl ?_
 refine Wp.weaken (E' := [(0, .int .u32 (a1 : Int)), (1, .int .u32 (b : Int)), (2, .int .u32 (c1 : Int)), (3, .int .u32 (d1 : Int))]) (.cons rfl (.cons rfl (.cons' rfl (int_eq (by rw [u32_add, ec1]; rfl)) (.cons rfl (.nil _))))) (fun _ h => h) ?_
 refine Yg 3 rfl ?_
 refine Yc rfl rfl (rlC (n := 12) (Go.Lg.u32_xor hb hc1) (x32 _ _ hb hc1) (by decide) (by decide +kernel) ?_)
 rw [← eb1]
 refine Yz 1 rfl ?_
 refine Yn 4 rfl ?_
 refine Wp.weaken (E' := [(0, .int .u32 (a2 : Int)), (1, .int .u32 (b1 : Int)), (2, .int .u32 (c1 : Int)), (3, .int .u32 (d1 : Int))]) (.cons' rfl (int_eq (by rw [u32_add, ea2]; rfl)) (.cons rfl (.cons rfl (.cons rfl (.nil _))))) (fun _ h => h) ?_
 refine Yg 3 rfl ?_
 refine Yc rfl rfl (rlC (n := 8) (Go.Lg.u32_xor hd1 ha2) (x32 _ _ hd1 ha2) (by decide) (by decide +kernel) ?_)
 rw [← ed2]
 refine Yz 1 rfl ?_
 refine Yn 4 rfl ?_
 refine Wp.weaken (E' := [(0, .int .u32 (a2 : Int)), (1, .int .u32 (b1 : Int)), (2, .int .u32 (c2 : Int)), (3, .int .u32 (d2 : Int))]) (.cons rfl (.cons rfl (.cons' rfl (int_eq (by rw [u32_add, ec2]; rfl)) (.cons rfl (.nil _))))) (fun _ h => h) ?_
 refine Yg 3 rfl ?_
 refine Yc rfl rfl (rlC (n := 7) (Go.Lg.u32_xor hb1 hc2) (x32 _ _ hb1 hc2) (by decide) (by decide +kernel) ?_)
 rw [← eb2]
 refine Yz 1 rfl ?_
 refine Yn 8 rfl ?_
 refine Wp.ret ⟨trivial, _, ⟨_, _, rfl, rfl, _, _, rfl, rfl, _, _, rfl, rfl, _, _, rfl, rfl, rfl⟩, ?_⟩
 exact H
end
end Go.Proofs.D

namespace Go.Proofs.D
open Go.Lg Go.Sha
set_option maxRecDepth 100000

/-- Words of a state. -/
def Good (x : List Nat) : Prop := x.length = 16 ∧ ∀ y ∈ x, y < 4294967296
theorem quarter_lt {a b c d : Nat} (hb : b < 4294967296) (hd : d < 4294967296) :
  (quarter a b c d).1 < 4294967296 ∧ (quarter a b c d).2.1 < 4294967296 ∧ (quarter a b c d).2.2.1 < 4294967296 ∧ (quarter a b c d).2.2.2 < 4294967296 := by
 have x32 : ∀ a b, a < 4294967296 → b < 4294967296 → a ^^^ b < 4294967296 := fun a b => xor_lt32
 have d1 := rl_lt (n := 16) (x32 _ _ hd (add_lt a b)) (by decide)
 have b1 := rl_lt (n := 12) (x32 _ _ hb (add_lt c (rl (d ^^^ add a b) 16))) (by decide)
 exact ⟨add_lt _ _, rl_lt (x32 _ _ b1 (add_lt _ _)) (by decide), add_lt _ _, rl_lt (x32 _ _ d1 (add_lt _ _)) (by decide)⟩
theorem set_all {l : List Nat} {i x : Nat} (h : ∀ y ∈ l, y < 4294967296) (hx : x < 4294967296) : ∀ y ∈ l.set i x, y < 4294967296 := by
 intro y hy
 rcases List.mem_or_eq_of_mem_set hy with h1 | h1
 ·exact h y h1
 ·rw [h1]; exact hx
def qr (h : Nat) (x : List Nat) (j : Nat) : List Nat := turn x j (4 + (j + h) % 4) (8 + (j + 2 * h) % 4) (12 + (j + 3 * h) % 4)
theorem qr_good {h j : Nat} {x : List Nat} (hx : Good x) : Good (qr h x j) := by
 have q := quarter_lt (a := x.getD j 0) (c := x.getD (8 + (j + 2 * h) % 4) 0) (getD_lt hx.2 (4 + (j + h) % 4)) (getD_lt hx.2 (12 + (j + 3 * h) % 4))
 refine ⟨by simp [qr, turn, hx.1], ?_⟩
 unfold qr turn
 exact set_all (set_all (set_all (set_all hx.2 q.1) q.2.1) q.2.2.1) q.2.2.2
def row4 (h : Nat) (x : List Nat) : Nat → List Nat
 | 0 => x
 | j + 1 => qr h (row4 h x j) j
theorem row4_good {h : Nat} {x : List Nat} (hx : Good x) : ∀ j, Good (row4 h x j)
 | 0 => hx
 | j + 1 => qr_good (row4_good hx j)
theorem row4_succ (h : Nat) (x : List Nat) (j : Nat) : row4 h x (j + 1) = qr h (row4 h x j) j := rfl
def half (x : List Nat) : Nat → List Nat
 | 0 => x
 | h + 1 => row4 h (half x h) 4
theorem half_succ (x : List Nat) (h : Nat) : half x (h + 1) = row4 h (half x h) 4 := rfl
theorem half_good {x : List Nat} (hx : Good x) : ∀ h, Good (half x h)
 | 0 => hx
 | h + 1 => row4_good (half_good hx h) 4
theorem half_zero (x : List Nat) : half x 0 = x := rfl
theorem row4_zero (h : Nat) (x : List Nat) : row4 h x 0 = x := rfl
theorem half_two (x : List Nat) : half x 2 = twice x := by
 have c : ∀ s i, i < 4 → column s i = qr 0 s i := fun s i h => by
  unfold column qr
  rw [show (i + 0) % 4 = i by omega]
 have d : ∀ s i, diagonal s i = qr 1 s i := fun s i => by
  unfold diagonal qr
  rw [Nat.mul_one, Nat.mul_one]
 have r : List.range 4 = [0, 1, 2, 3] := by decide
 unfold twice
 rw [r]
 simp only [List.foldl_cons, List.foldl_nil, d, c _ 0 (by decide), c _ 1 (by decide), c _ 2 (by decide), c _ 3 (by decide), half, row4]

theorem at4 {c j m : Nat} {z : Int} (hz : z = (m : Int)) (hj : j + m ≤ 1000) (hc : c ≤ 1000) : IntKind.i64.wrap ((c : Int) + (IntKind.i64.wrap ((j : Int) + z)).tmod (Int.ofNat (3 + 1))) = ((c + (j + m) % 4 : Nat) : Int) := by
 subst hz
 have e1 : IntKind.i64.wrap ((j : Int) + (m : Int)) = ((j + m : Nat) : Int) := by rw [i64_id (by omega) (by omega)]; rfl
 have e2 : (((j + m : Nat) : Int)).tmod (Int.ofNat (3 + 1)) = (((j + m) % 4 : Nat) : Int) := rfl
 rw [e1, e2, i64_id (by omega) (by omega)]; rfl
theorem i64_mul {c h : Nat} (hc : c * h ≤ 1000) : IntKind.i64.wrap ((c : Int) * (h : Int)) = ((c * h : Nat) : Int) := by
 have : ((c : Int) * (h : Int)) = ((c * h : Nat) : Int) := by simp
 rw [this, i64_id (by omega) (by omega)]
theorem u32s_one (l : List Nat) : (u32s l).all (·.oneCell') = true := by
 rw [List.all_eq_true]
 intro v hv
 simp only [u32s, List.mem_map] at hv
 obtain ⟨s, _, rfl⟩ := hv
 rfl
theorem wr_all {l X : List Value} (h : X.length = l.length) : wr l 0 X = X := by
 unfold wr
 rw [Nat.zero_add, h, List.drop_length, List.take_zero]
 simp
theorem u32s_agg {x : List Nat} (hx : x.length = 16) : Lg.partAt Tryz.prog 298 (u32s x) 0 = some (.agg (u32s x).toArray) :=
 partAt_agg (n := 16) (r := u32s x) (by rw [List.drop_zero, List.take_of_length_le (by rw [u32s_length, hx]; exact Nat.le_refl _)]) rfl rfl (by rw [u32s_length]; exact hx)
attribute [local irreducible] row4 half turned twice
section
variable {B : Nat} {S R : Ents} {Q : Value → Ents → Prop}

set_option maxHeartbeats 1000000 in
theorem turnedC {s : List Nat} (hs : Good s) (H : Q (.agg (u32s (turned 10 s)).toArray) S) :
  CallWp Tryz.prog B 226 #[.agg (u32s s).toArray] Q S := by
 refine CallWp.dropRet ?_
 refine Yx (args := [_]) Tryz.func226 Tryz.ntmps226 ?_
 refine Yq ?_
 refine Yb rfl rfl rfl rfl fun L1 hBL1 hLL1 => ?_
 refine Ya rfl rfl rfl rfl fun L2 hBL2 hLL2 => ?_
 refine OWp.nil ?_
 refine Wp.seq ?_
 refine Yn 1 rfl ?_
 refine Wp.block ?_
 refine Wp.loopS (α := Nat × List Nat) (fun z => 10 - z.1) (fun z => [(1, pt L1), (2, pt L2), (8, .int .i64 (z.1 : Int))]) (fun z => (L2, cel (u32s (List.replicate 16 0)) 298) :: (L1, cel (u32s z.2) 298) :: S) (fun z => z.1 ≤ 10 ∧ turned (10 - z.1) z.2 = turned 10 s ∧ Good z.2) (0, s) ?_ (.refl _) ⟨Nat.zero_le _, rfl, hs⟩ ?_
 ·exact .cons rfl (.cons rfl (.cons rfl (.nil _)))
 rintro ⟨i, x⟩ ⟨hi, ht, hx⟩
 simp only at hi ht hx ⊢
 refine Yn 1 rfl ?_
 refine Wp.seq ?_
 refine Wp.cond rfl (fun h1 => ?_) (fun h1 => ?_)
 ·have h1 := of_decide_eq_true h1
  have hi2 : i < 10 := by omega
  refine Wp.skip ?_
  refine Wp.seq ?_
  refine Wp.block ?_
  refine Yn 1 rfl ?_
  refine Wp.block ?_
  refine Wp.loopS (α := Nat) (fun h => 2 - h) (fun h => [(1, pt L1), (2, pt L2), (8, .int .i64 (i : Int)), (10, .int .i64 (h : Int))]) (fun h => (L2, cel (u32s (List.replicate 16 0)) 298) :: (L1, cel (u32s (half x h)) 298) :: S) (fun h => h ≤ 2) 0 ?_ (by simp only [half_zero]; exact .refl _) (Nat.zero_le _) ?_
  ·exact .cons rfl (.cons rfl (.cons rfl (.cons rfl (.nil _))))
  intro h hh
  refine Yn 1 rfl ?_
  refine Wp.seq ?_
  refine Wp.cond rfl (fun h2 => ?_) (fun h2 => ?_)
  ·have h2 := of_decide_eq_true h2
   have hh2 : h < 2 := by omega
   refine Wp.skip ?_
   refine Wp.seq ?_
   refine Wp.block ?_
   refine Yn 2 rfl ?_
   refine Yn 1 rfl ?_
   refine Wp.block ?_
   refine Wp.loopS (α := Nat) (fun j => 4 - j) (fun j => [(1, pt L1), (2, pt L2), (8, .int .i64 (i : Int)), (10, .int .i64 (h : Int)), (3, .int .i64 (h : Int)), (13, .int .i64 (j : Int))]) (fun j => (L2, cel (u32s (List.replicate 16 0)) 298) :: (L1, cel (u32s (row4 h (half x h) j)) 298) :: S) (fun j => j ≤ 4) 0 ?_ (by simp only [row4_zero]; exact .refl _) (Nat.zero_le _) ?_
   ·exact .cons rfl (.cons rfl (.cons rfl (.cons rfl (.cons rfl (.cons rfl (.nil _))))))
   intro j hj
   refine Yn 1 rfl ?_
   refine Wp.seq ?_
   refine Wp.cond rfl (fun h3 => ?_) (fun h3 => ?_)
   ·have h3 := of_decide_eq_true h3
    have hj2 : j < 4 := by omega
    refine Wp.skip ?_
    refine Wp.seq ?_
    refine Wp.block ?_
    refine Yn 2 rfl ?_
    refine Yn 20 rfl ?_
    refine Wp.weaken (E' := [(1, pt L1), (2, pt L2), (8, .int .i64 (i : Int)), (10, .int .i64 (h : Int)), (3, .int .i64 (h : Int)), (13, .int .i64 (j : Int)), (4, .int .i64 (j : Int)), (5, .int .i64 ((4 + (j + h) % 4 : Nat) : Int)), (6, .int .i64 ((8 + (j + 2 * h) % 4 : Nat) : Int)), (7, .int .i64 ((12 + (j + 3 * h) % 4 : Nat) : Int))]) (.cons rfl (.cons rfl (.cons rfl (.cons rfl (.cons rfl (.cons rfl (.cons rfl (.cons' rfl (int_eq (at4 (c := 4) rfl (by omega) (by omega))) (.cons' rfl (int_eq (at4 (c := 8) (i64_mul (c := 2) (by omega)) (by omega) (by omega))) (.cons' rfl (int_eq (at4 (c := 12) (i64_mul (c := 3) (by omega)) (by omega) (by omega))) (.nil _))))))))))) (fun _ h => h) ?_
    obtain ⟨z, hz⟩ : ∃ z, z = row4 h (half x h) j := ⟨_, rfl⟩
    have hzg : Good z := hz ▸ row4_good (half_good hx h) j
    rw [← hz]
    have hm1 := Nat.mod_lt (j + h) (show 4 > 0 by decide)
    have hm2 := Nat.mod_lt (j + 2 * h) (show 4 > 0 by decide)
    have hm3 := Nat.mod_lt (j + 3 * h) (show 4 > 0 by decide)
    refine Wp.regionDraw [0, 1, 2, 3, 4, 5, 6, 7, 8, 9, 10, 11, 12, 13, 14, 15, 16, 17, 18, 19, 20, 21, 22, 23, 24, 25, 26, 27, 28, 29] [16, 23, 25, 27, 29] rfl (by decide +kernel) ?_
    refine DWp.evs 5 rfl ?_
    refine DWp.g rfl rfl rfl rfl (Gives.indexAddrArr (j) rfl rfl rfl rfl rfl rfl (by omega)) ?_
    refine DWp.load (.tail _ (.head _)) rfl rfl rfl rfl rfl rfl (u32s_part (by rw [hzg.1]; omega)) ?_
    refine DWp.evs 1 rfl ?_
    refine DWp.g rfl rfl rfl rfl (Gives.indexAddrArr ((4 + (j + h) % 4)) rfl rfl rfl rfl rfl rfl (by omega)) ?_
    refine DWp.load (.tail _ (.head _)) rfl rfl rfl rfl rfl rfl (u32s_part (by rw [hzg.1]; omega)) ?_
    refine DWp.evs 1 rfl ?_
    refine DWp.g rfl rfl rfl rfl (Gives.indexAddrArr ((8 + (j + 2 * h) % 4)) rfl rfl rfl rfl rfl rfl (by omega)) ?_
    refine DWp.load (.tail _ (.head _)) rfl rfl rfl rfl rfl rfl (u32s_part (by rw [hzg.1]; omega)) ?_
    refine DWp.evs 1 rfl ?_
    refine DWp.g rfl rfl rfl rfl (Gives.indexAddrArr ((12 + (j + 3 * h) % 4)) rfl rfl rfl rfl rfl rfl (by omega)) ?_
    refine DWp.load (.tail _ (.head _)) rfl rfl rfl rfl rfl rfl (u32s_part (by rw [hzg.1]; omega)) ?_
    refine DWp.stepGrow rfl rfl rfl (Step.call rfl rfl rfl rfl rfl rfl ((quarterC (getD_lt hzg.2 _) (getD_lt hzg.2 _) (getD_lt hzg.2 _) (getD_lt hzg.2 _) ?_)))
    refine ⟨fun _ hy => hy, ?_⟩
    obtain ⟨q, hq⟩ : ∃ q, q = quarter (z.getD j 0) (z.getD (4 + (j + h) % 4) 0) (z.getD (8 + (j + 2 * h) % 4) 0) (z.getD (12 + (j + 3 * h) % 4) 0) := ⟨_, rfl⟩
    rw [← hq]
    refine DWp.evs 5 rfl ?_
    refine DWp.g rfl rfl rfl rfl (Gives.indexAddrArr (j) rfl rfl rfl rfl rfl rfl (by omega)) ?_
    refine DWp.step rfl rfl rfl (Step.storeAs 1 (u32s (z.set j q.1)) rfl rfl rfl rfl rfl hBL1 rfl (Unfz.zero _) rfl (by rw [u32s_length]; simp only [hzg.1]; show 0 + j * 1 + 1 ≤ 16; omega) (u32s_set (by simp only [hzg.1]; omega) (by show 0 + j * 1 = j; omega)) rfl ?_)
    refine prs ?_
    refine DWp.g rfl rfl rfl rfl (Gives.indexAddrArr ((4 + (j + h) % 4)) rfl rfl rfl rfl rfl rfl (by omega)) ?_
    refine DWp.step rfl rfl rfl (Step.storeAs 1 (u32s ((z.set j q.1).set (4 + (j + h) % 4) q.2.1)) rfl rfl rfl rfl rfl hBL1 rfl (Unfz.zero _) rfl (by rw [u32s_length]; simp only [List.length_set, hzg.1]; show 0 + (4 + (j + h) % 4) * 1 + 1 ≤ 16; omega) (u32s_set (by simp only [List.length_set, hzg.1]; omega) (by show 0 + (4 + (j + h) % 4) * 1 = (4 + (j + h) % 4); omega)) rfl ?_)
    refine prs ?_
    refine DWp.g rfl rfl rfl rfl (Gives.indexAddrArr ((8 + (j + 2 * h) % 4)) rfl rfl rfl rfl rfl rfl (by omega)) ?_
    refine DWp.step rfl rfl rfl (Step.storeAs 1 (u32s (((z.set j q.1).set (4 + (j + h) % 4) q.2.1).set (8 + (j + 2 * h) % 4) q.2.2.1)) rfl rfl rfl rfl rfl hBL1 rfl (Unfz.zero _) rfl (by rw [u32s_length]; simp only [List.length_set, hzg.1]; show 0 + (8 + (j + 2 * h) % 4) * 1 + 1 ≤ 16; omega) (u32s_set (by simp only [List.length_set, hzg.1]; omega) (by show 0 + (8 + (j + 2 * h) % 4) * 1 = (8 + (j + 2 * h) % 4); omega)) rfl ?_)
    refine prs ?_
    refine DWp.g rfl rfl rfl rfl (Gives.indexAddrArr ((12 + (j + 3 * h) % 4)) rfl rfl rfl rfl rfl rfl (by omega)) ?_
    refine DWp.step rfl rfl rfl (Step.storeAs 1 (u32s ((((z.set j q.1).set (4 + (j + h) % 4) q.2.1).set (8 + (j + 2 * h) % 4) q.2.2.1).set (12 + (j + 3 * h) % 4) q.2.2.2)) rfl rfl rfl rfl rfl hBL1 rfl (Unfz.zero _) rfl (by rw [u32s_length]; simp only [List.length_set, hzg.1]; show 0 + (12 + (j + 3 * h) % 4) * 1 + 1 ≤ 16; omega) (u32s_set (by simp only [List.length_set, hzg.1]; omega) (by show 0 + (12 + (j + 3 * h) % 4) * 1 = (12 + (j + 3 * h) % 4); omega)) rfl ?_)
    refine prs ?_
    refine DWp.nil ?_
    refine Wp.region ?_
    refine Yz 2 rfl ?_
    exact ⟨j + 1, by omega, by omega, .cons rfl (.cons rfl (.cons rfl (.cons rfl (.cons rfl (.cons' rfl (int_eq (i64_inc (by omega))) (.nil _)))))), by rw [row4_succ, ← hz, hq]; exact .refl _⟩
   have h3 := of_decide_eq_false h3
   refine Wp.exit ?_
   refine Wp.region ?_
   refine Yz 2 rfl ?_
   obtain rfl : j = 4 := by omega
   exact ⟨h + 1, by omega, by omega, .cons rfl (.cons rfl (.cons rfl (.cons' rfl (int_eq (i64_inc (by omega))) (.nil _)))), by rw [half_succ]⟩
  have h2 := of_decide_eq_false h2
  refine Wp.exit ?_
  refine Wp.region ?_
  refine Yz 2 rfl ?_
  obtain rfl : h = 2 := by omega
  refine ⟨(i + 1, half x 2), by simp only; omega, ⟨by simp only; omega, ?_, half_good hx 2⟩, .cons rfl (.cons rfl (.cons' rfl (int_eq (i64_inc (by omega))) (.nil _))), .refl _⟩
  simp only
  rw [half_two, ← ht, show 10 - i = (10 - (i + 1)) + 1 by omega, turned]
 have h1 := of_decide_eq_false h1
 obtain rfl : i = 10 := by omega
 rw [Nat.sub_self, turned] at ht
 refine Wp.exit ?_
 refine Yq ?_
 refine OWp.load (.tail _ (.head _)) rfl rfl rfl rfl (u32s_agg hx.1) ?_
 refine OWp.step rfl (Step.storeAs 0 (u32s x) rfl rfl rfl rfl rfl hBL2 (by show some 16 = some (u32s x).length; rw [u32s_length, hx.1]) (Unfz.zero _) (u32s_one x) (by rw [u32s_length]; show 0 + (u32s x).length ≤ _; rw [u32s_length, hx.1, List.length_replicate]; exact Nat.le_refl _) (wr_all (X := u32s x) (by rw [u32s_length, u32s_length, hx.1, List.length_replicate])) rfl ?_)
 have hp : Lg.partAt Tryz.prog 298 (u32s x) 0 = some (.agg (u32s x).toArray) := u32s_agg hx.1
 refine OWp.nil ?_
 refine Wp.ret ⟨trivial, _, ⟨_, _, _, _, rfl, rfl, ⟨_, _, _, mems, (by first | assumption | rfl)⟩, rfl⟩, ?_⟩
 subst ht; exact ⟨S, subl, H⟩
end
end Go.Proofs.D

namespace Go.Proofs.D
open Go.Lg Go.Sha
set_option maxRecDepth 100000

theorem lewords_succ : ∀ (n : Nat) (l : List UInt8), lewords (n + 1) l = lewords n l ++ [le (l.drop (4 * n))]
 | 0, l => rfl
 | n + 1, l => by
  rw [lewords, lewords_succ n, lewords, List.drop_drop]
  rw [show 4 + 4 * n = 4 * (n + 1) by omega]; rfl
theorem set_mid {a b : List Nat} {x y : Nat} {k : Nat} (hk : k = a.length) : (a ++ x :: b).set k y = a ++ y :: b := by
 subst hk
 rw [List.set_append_right _ _ (Nat.le_refl _), Nat.sub_self, List.set_cons_zero]
def c4 : List Nat := [0x61707865, 0x3320646e, 0x79622d32, 0x6b206574]
def r1 (key : List UInt8) (c i : Nat) : List Nat := c4 ++ (lewords i key ++ (List.replicate (8 - i) 0 ++ (c :: List.replicate 3 0)))
theorem r1_len (key : List UInt8) (c : Nat) {i : Nat} (h : i ≤ 8) : (r1 key c i).length = 16 := by
 simp only [r1, c4, List.length_append, List.length_cons, List.length_nil, lewords_len, List.length_replicate]; omega
theorem r1_set (key : List UInt8) (c : Nat) {i : Nat} (h : i < 8) : (r1 key c i).set (4 + i) (le (key.drop (4 * i))) = r1 key c (i + 1) := by
 have e : 8 - i = (8 - (i + 1)) + 1 := by omega
 have a : ∀ z : List Nat, c4 ++ (lewords i key ++ z) = (c4 ++ lewords i key) ++ z := fun z => by simp
 unfold r1
 rw [e, List.replicate_succ, lewords_succ i, a, List.cons_append, set_mid (by simp only [c4, List.length_append, List.length_cons, List.length_nil, lewords_len])]
 simp
def r2 (key nonce : List UInt8) (c i : Nat) : List Nat := c4 ++ (lewords 8 key ++ (c :: (lewords i nonce ++ List.replicate (3 - i) 0)))
theorem r2_len (key nonce : List UInt8) (c : Nat) {i : Nat} (h : i ≤ 3) : (r2 key nonce c i).length = 16 := by
 simp only [r2, c4, List.length_append, List.length_cons, List.length_nil, lewords_len, List.length_replicate]; omega
theorem r2_set (key nonce : List UInt8) (c : Nat) {i : Nat} (h : i < 3) : (r2 key nonce c i).set (13 + i) (le (nonce.drop (4 * i))) = r2 key nonce c (i + 1) := by
 have e : 3 - i = (3 - (i + 1)) + 1 := by omega
 have a : ∀ z : List Nat, c4 ++ (lewords 8 key ++ (c :: (lewords i nonce ++ z))) = (c4 ++ (lewords 8 key ++ (c :: lewords i nonce))) ++ z := fun z => by simp
 unfold r2
 rw [e, List.replicate_succ, lewords_succ i, a, set_mid (by simp only [c4, List.length_append, List.length_cons, List.length_nil, lewords_len]; omega)]
 simp
theorem r1_r2 (key nonce : List UInt8) (c : Nat) : r1 key c 8 = r2 key nonce c 0 := rfl
theorem r2_start (key nonce : List UInt8) (c : Nat) : r2 key nonce c 3 = Go.Sha.start key nonce c := by
 simp [r2, Go.Sha.start, c4]
theorem le_lt (l : List UInt8) : le l < 4294967296 := by
 unfold le
 split
 ·rename_i a b c d _
  have h1 := a.toNat_lt
  have h2 := b.toNat_lt
  have h3 := c.toNat_lt
  have h4 := d.toNat_lt
  omega
 ·decide
theorem lewords_lt : ∀ (n : Nat) (l : List UInt8), ∀ x ∈ lewords n l, x < 4294967296
 | 0, _ => by simp [lewords]
 | n + 1, l => by
  intro x hx
  rw [lewords, List.mem_cons] at hx
  rcases hx with rfl | hx
  ·exact le_lt l
  ·exact lewords_lt n _ x hx
theorem start_good (key nonce : List UInt8) {c : Nat} (hc : c < 4294967296) : Good (Go.Sha.start key nonce c) := by
 refine ⟨start_len _ _ _, ?_⟩
 intro x hx
 unfold Go.Sha.start at hx
 simp only [List.mem_append, List.mem_cons] at hx
 rcases hx with (rfl | rfl | rfl | rfl | hx) | hx | rfl | hx
 ·decide
 ·decide
 ·decide
 ·decide
 ·cases hx
 ·exact lewords_lt _ _ x hx
 ·exact hc
 ·exact lewords_lt _ _ x hx

section
variable {B : Nat} {S R : Ents} {Q : Value → Ents → Prop}

theorem wordEqC {s t : List UInt8} (ht : t = s) (hs : 4 ≤ s.length) (H : Q (.int .u32 (le s : Nat)) S) :
  CallWp Tryz.prog B 225 #[.string (str t)] Q S := by
 subst ht; exact wordC hs H

set_option maxHeartbeats 1000000 in
theorem sbeginC {key nonce : List UInt8} {c : Nat} (hk : key.length = 32) (hn : nonce.length = 12) (_hc : c < 4294967296) (H : Q (.agg (u32s (Go.Sha.start key nonce c)).toArray) S) :
  CallWp Tryz.prog B 203 #[.string (str key), .string (str nonce), .int .u32 (c : Int)] Q S := by
 refine CallWp.dropRet ?_
 refine Yx (args := [_, _, _]) Tryz.func203 Tryz.ntmps203 ?_
 refine Yq ?_
 refine Ya rfl rfl rfl rfl fun L1 hBL1 hLL1 => ?_
 refine OWp.nil ?_
 refine Yg 1 rfl ?_
 refine OWp.g rfl rfl (Gives.build rfl rfl) ?_
 refine Ya rfl rfl rfl rfl fun L2 hBL2 hLL2 => ?_
 refine OWp.step rfl (Step.storeAs 0 (u32s (r1 key c 0)) rfl rfl rfl rfl rfl hBL2 rfl (Unfz.zero _) rfl (Nat.le_of_ble_eq_true rfl) (by rfl) rfl ?_)
 refine OWp.nil ?_
 refine Wp.seq ?_
 refine Yn 1 rfl ?_
 refine Wp.block ?_
 refine Wp.loopS (α := Nat) (fun i => 8 - i) (fun i => [(0, .string (str key)), (1, .string (str nonce)), (6, pt L1), (7, pt L2), (12, .int .i64 (i : Int))]) (fun i => (L2, cel (u32s (r1 key c i)) 298) :: (L1, cel (u32s (List.replicate 16 0)) 298) :: S) (fun i => i ≤ 8) 0 ?_ (.refl _) (Nat.zero_le _) ?_
 ·exact .cons rfl (.cons rfl (.cons rfl (.cons rfl (.cons rfl (.nil _)))))
 intro i hi
 refine Yn 1 rfl ?_
 refine Wp.seq ?_
 refine Wp.cond rfl (fun h1 => ?_) (fun h1 => ?_)
 ·have h1 := of_decide_eq_true h1
  have hi2 : i < 8 := by omega
  refine Wp.skip ?_
  refine Wp.seq ?_
  refine Wp.block ?_
  refine Yn 2 rfl ?_
  refine Wp.region ?_
  refine Ye 5 rfl ?_
  refine OWp.g rfl rfl (Gives.sliceStr (l := (4 * i)) (h' := key.length) rfl rfl rfl ⟨_, _, rfl, i64_mul (c := 4) (by omega)⟩ rfl (by omega) (by omega)) ?_
  refine Yc rfl rfl (wordEqC (s := key.drop (4 * i)) (List.take_of_length_le (by rw [List.length_drop]; exact Nat.le_refl _)) (by rw [List.length_drop]; omega) ?_)
  refine OWp.g rfl rfl (Gives.indexAddrArr ((4 + i)) rfl rfl rfl rfl rfl (by rw [i64_id (by omega) (by omega)]; rfl) (by omega)) ?_
  refine OWp.step rfl (Step.storeAs 0 (u32s (r1 key c (i + 1))) rfl rfl rfl rfl rfl hBL2 rfl (Unfz.zero _) rfl (by rw [u32s_length, r1_len key c (by omega)]; show 0 + (4 + i) * 1 + 1 ≤ 16; omega) (by rw [← r1_set key c (by omega)]; exact u32s_set (by rw [r1_len key c (by omega)]; omega) (by show 0 + (4 + i) * 1 = 4 + i; omega)) rfl ?_)
  refine OWp.nil ?_
  refine Wp.region ?_
  refine Yz 2 rfl ?_
  exact ⟨i + 1, by omega, by omega, .cons rfl (.cons rfl (.cons rfl (.cons rfl (.cons' rfl (int_eq (i64_inc (by omega))) (.nil _))))), .refl _⟩
 have h1 := of_decide_eq_false h1
 obtain rfl : i = 8 := by omega
 refine Wp.exit ?_
 refine Wp.seq ?_
 refine Yn 1 rfl ?_
 refine Wp.block ?_
 refine Wp.loopS (α := Nat) (fun i => 3 - i) (fun i => [(1, .string (str nonce)), (6, pt L1), (7, pt L2), (24, .int .i64 (i : Int))]) (fun i => (L2, cel (u32s (r2 key nonce c i)) 298) :: (L1, cel (u32s (List.replicate 16 0)) 298) :: S) (fun i => i ≤ 3) 0 ?_ (by rw [r1_r2 key nonce]) (Nat.zero_le _) ?_
 ·exact .cons rfl (.cons rfl (.cons rfl (.cons rfl (.nil _))))
 intro i hi
 refine Yn 1 rfl ?_
 refine Wp.seq ?_
 refine Wp.cond rfl (fun h2 => ?_) (fun h2 => ?_)
 ·have h2 := of_decide_eq_true h2
  have hi2 : i < 3 := by omega
  refine Wp.skip ?_
  refine Wp.seq ?_
  refine Wp.block ?_
  refine Yn 2 rfl ?_
  refine Wp.region ?_
  refine Ye 5 rfl ?_
  refine OWp.g rfl rfl (Gives.sliceStr (l := (4 * i)) (h' := nonce.length) rfl rfl rfl ⟨_, _, rfl, i64_mul (c := 4) (by omega)⟩ rfl (by omega) (by omega)) ?_
  refine Yc rfl rfl (wordEqC (s := nonce.drop (4 * i)) (List.take_of_length_le (by rw [List.length_drop]; exact Nat.le_refl _)) (by rw [List.length_drop]; omega) ?_)
  refine OWp.g rfl rfl (Gives.indexAddrArr ((13 + i)) rfl rfl rfl rfl rfl (by rw [i64_id (by omega) (by omega)]; rfl) (by omega)) ?_
  refine OWp.step rfl (Step.storeAs 0 (u32s (r2 key nonce c (i + 1))) rfl rfl rfl rfl rfl hBL2 rfl (Unfz.zero _) rfl (by rw [u32s_length, r2_len key nonce c (by omega)]; show 0 + (13 + i) * 1 + 1 ≤ 16; omega) (by rw [← r2_set key nonce c (by omega)]; exact u32s_set (by rw [r2_len key nonce c (by omega)]; omega) (by show 0 + (13 + i) * 1 = 13 + i; omega)) rfl ?_)
  refine OWp.nil ?_
  refine Wp.region ?_
  refine Yz 2 rfl ?_
  exact ⟨i + 1, by omega, by omega, .cons rfl (.cons rfl (.cons rfl (.cons' rfl (int_eq (i64_inc (by omega))) (.nil _)))), .refl _⟩
 have h2 := of_decide_eq_false h2
 obtain rfl : i = 3 := by omega
 rw [r2_start]
 obtain ⟨x, hx⟩ : ∃ x, x = Go.Sha.start key nonce c := ⟨_, rfl⟩
 have hxl : x.length = 16 := by rw [hx]; exact start_len _ _ _
 rw [← hx] at H ⊢
 refine Wp.exit ?_
 refine Yq ?_
 refine OWp.load (.head _) rfl rfl rfl rfl (u32s_agg hxl) ?_
 refine OWp.step rfl (Step.storeAs 1 (u32s x) rfl rfl rfl rfl rfl hBL1 (by show some 16 = some (u32s x).length; rw [u32s_length, hxl]) (Unfz.zero _) (u32s_one x) (by rw [u32s_length]; show 0 + (u32s x).length ≤ _; rw [u32s_length, hxl, List.length_replicate]; exact Nat.le_refl _) (wr_all (X := u32s x) (by rw [u32s_length, u32s_length, hxl, List.length_replicate])) rfl ?_)
 have hp : Lg.partAt Tryz.prog 298 (u32s x) 0 = some (.agg (u32s x).toArray) := u32s_agg hxl
 refine OWp.nil ?_
 refine Wp.ret ⟨trivial, _, ⟨_, _, _, _, rfl, rfl, ⟨_, _, _, mems, (by first | assumption | rfl)⟩, rfl⟩, ?_⟩
 exact ⟨S, subl, H⟩
end
end Go.Proofs.D

namespace Go.Proofs.D
open Go.Lg Go.Sha
set_option maxRecDepth 100000

/-- Byte i of a block. -/
def sb (s : List Nat) (i : Nat) : UInt8 := UInt8.ofNat (add (s.getD (i / 4) 0) ((turned 10 s).getD (i / 4) 0) / 2 ^ (i % 4 * 8))
theorem turned_good : ∀ (n : Nat) {s : List Nat}, Good s → Good (turned n s)
 | 0, _, h => h
 | n + 1, s, h => turned_good n (s := twice s) (by rw [← half_two]; exact half_good h 2)
theorem lebytes_get (x : Nat) {k : Nat} (h : k < 4) : (lebytes x)[k]? = some (UInt8.ofNat (x / 2 ^ (k * 8))) := by
 match k, h with
 | 0, _ => simp [lebytes]
 | 1, _ => rfl
 | 2, _ => rfl
 | 3, _ => rfl
theorem flat_get : ∀ (l : List Nat) (i : Nat), i < 4 * l.length → (l.flatMap lebytes)[i]? = some (UInt8.ofNat (l.getD (i / 4) 0 / 2 ^ (i % 4 * 8)))
 | [], i, h => by simp at h
 | x :: l, i, h => by
  have hl : (lebytes x).length = 4 := rfl
  rw [List.flatMap_cons]
  by_cases hi : i < 4
  ·rw [List.getElem?_append_left (by rw [hl]; exact hi), lebytes_get x hi, Nat.div_eq_of_lt hi, Nat.mod_eq_of_lt hi]; rfl
  ·obtain ⟨j, rfl⟩ : ∃ j, i = j + 4 := ⟨i - 4, by omega⟩
   rw [List.getElem?_append_right (by rw [hl]; omega), hl, Nat.add_sub_cancel, flat_get l j (by simp only [List.length_cons] at h; omega), Nat.add_div_right _ (by decide), Nat.add_mod_right]
   rfl
theorem sblock_range {s : List Nat} (hs : Good s) : sblock s = (List.range 64).map (sb s) := by
 have ht := turned_good 10 hs
 apply List.ext_getElem?
 intro i
 have hz : (List.zipWith add s (turned 10 s)).length = 16 := by simp [hs.1, ht.1]
 by_cases hi : i < 64
 ·unfold sblock
  rw [flat_get _ i (by rw [hz]; omega)]
  have e : (List.zipWith add s (turned 10 s)).getD (i / 4) 0 = add (s.getD (i / 4) 0) ((turned 10 s).getD (i / 4) 0) := by
   have h1 : i / 4 < s.length := by rw [hs.1]; omega
   have h2 : i / 4 < (turned 10 s).length := by rw [ht.1]; omega
   simp [List.getD_eq_getElem?_getD, List.getElem?_zipWith, h1, h2]
  rw [e]
  simp [sb, hi]
 ·rw [List.getElem?_eq_none (by rw [sblock_len hs.1]; omega), List.getElem?_eq_none (by simp; omega)]

section
variable {B : Nat} {S R : Ents} {Q : Value → Ents → Prop}

theorem sbytes_step (s : List Nat) (i : Nat) (z : Int) (hz : z = ((add (s.getD (i / 4) 0) ((turned 10 s).getD (i / 4) 0) : Nat) : Int)) : IntKind.u8.wrap (z.fdiv (2 ^ (min (i % 4 * 8) IntKind.u32.bits))) = ((sb s i).toNat : Int) := by
 subst hz
 have hm := Nat.mod_lt i (show 4 > 0 by decide)
 have e : min (i % 4 * 8) IntKind.u32.bits = i % 4 * 8 := by show min _ 32 = _; omega
 unfold sb
 rw [e, Int.fdiv_eq_ediv_of_nonneg _ (by exact Int.le_of_lt (Int.pow_pos (by decide))), IntKind.wrap_u8, UInt8.toNat_ofNat']
 generalize add _ _ = y
 have : (y : Int) / 2 ^ (i % 4 * 8) = ((y / 2 ^ (i % 4 * 8) : Nat) : Int) := by simp
 rw [this]
 omega

theorem bytes_agg {x : List UInt8} (hx : x.length = 64) : Lg.partAt Tryz.prog 106 (byteCells x) 0 = some (.agg (byteCells x).toArray) :=
 partAt_agg (n := 64) (r := byteCells x) (by rw [List.drop_zero, List.take_of_length_le (by rw [byteCells_length, hx]; exact Nat.le_refl _)]) rfl rfl (by rw [byteCells_length]; exact hx)

set_option maxHeartbeats 1000000 in
theorem sbytesC {s : List Nat} (hs : Good s) (H : Q (.agg (byteCells (sblock s)).toArray) S) :
  CallWp Tryz.prog B 204 #[.agg (u32s s).toArray] Q S := by
 refine CallWp.dropRet ?_
 refine Yx (args := [_]) Tryz.func204 Tryz.ntmps204 ?_
 refine Yq ?_
 refine Yb rfl rfl rfl rfl fun L1 hBL1 hLL1 => ?_
 refine Ya rfl rfl rfl rfl fun L2 hBL2 hLL2 => ?_
 refine OWp.nil ?_
 refine Yq ?_
 refine OWp.load (.tail _ (.head _)) rfl rfl rfl rfl (u32s_agg hs.1) ?_
 refine Yc rfl rfl (turnedC hs ?_)
 obtain ⟨t, ht⟩ : ∃ t, t = turned 10 s := ⟨_, rfl⟩
 have htg : Good t := ht ▸ turned_good 10 hs
 rw [← ht]
 refine Ya rfl rfl rfl rfl fun L3 hBL3 hLL3 => ?_
 refine OWp.step rfl (Step.storeAs 0 (u32s t) rfl rfl rfl rfl rfl hBL3 (by show some 16 = some (u32s t).length; rw [u32s_length, htg.1]) (Unfz.zero _) (u32s_one t) (by show 0 + (u32s t).length ≤ 16; rw [u32s_length, htg.1]; decide) (wr_all (X := u32s t) (by rw [u32s_length, htg.1]; rfl)) rfl ?_)
 refine OWp.nil ?_
 refine Yq ?_
 refine Ya rfl rfl rfl rfl fun L4 hBL4 hLL4 => ?_
 refine OWp.nil ?_
 refine Wp.seq ?_
 refine Yn 1 rfl ?_
 refine Wp.block ?_
 refine Wp.loopS (α := Nat) (fun i => 64 - i) (fun i => [(1, pt L1), (2, pt L2), (3, pt L3), (4, pt L4), (8, .int .i64 (i : Int))]) (fun i => (L4, cel (byteCells ((List.range i).map (sb s) ++ List.replicate (64 - i) 0)) 106) :: (L3, cel (u32s t) 298) :: (L2, cel (byteCells (List.replicate 64 0)) 106) :: (L1, cel (u32s s) 298) :: S) (fun i => i ≤ 64) 0 ?_ (.refl _) (Nat.zero_le _) ?_
 ·exact .cons rfl (.cons rfl (.cons rfl (.cons rfl (.cons rfl (.nil _)))))
 intro i hi
 refine Yn 1 rfl ?_
 refine Wp.seq ?_
 refine Wp.cond rfl (fun h1 => ?_) (fun h1 => ?_)
 ·have h1 := of_decide_eq_true h1
  have hi2 : i < 64 := by omega
  refine Wp.skip ?_
  refine Wp.seq ?_
  refine Wp.block ?_
  refine Yn 2 rfl ?_
  refine Wp.regionDraw [0, 1, 2, 3, 4, 5, 6, 7, 8, 9, 10, 11, 12, 13, 14, 15, 16] [16] rfl (by decide +kernel) ?_
  refine DWp.evs 3 rfl ?_
  refine DWp.g rfl rfl rfl rfl (Gives.indexAddrArr ((i / 4)) rfl rfl rfl rfl rfl (q4 (by omega)) (by omega)) ?_
  refine DWp.load (.tail _ (.tail _ (.tail _ (.head _)))) rfl rfl rfl rfl rfl rfl (u32s_part (by rw [hs.1]; omega)) ?_
  refine DWp.evs 2 rfl ?_
  refine DWp.g rfl rfl rfl rfl (Gives.indexAddrArr ((i / 4)) rfl rfl rfl rfl rfl (q4 (by omega)) (by omega)) ?_
  refine DWp.load (.tail _ (.head _)) rfl rfl rfl rfl rfl rfl (u32s_part (by rw [htg.1]; omega)) ?_
  refine DWp.evs 4 rfl ?_
  refine DWp.g rfl rfl rfl rfl (Gives.shr (m := i % 4 * 8) rfl rfl rfl (by show IntKind.i64.wrap ((i : Int) % 4 * 8) = _; rw [i64_id (by omega) (by omega)]; omega)) ?_
  refine DWp.evs 1 rfl ?_
  refine DWp.g rfl rfl rfl rfl (Gives.indexAddrArr (i) rfl rfl rfl rfl rfl rfl (by omega)) ?_
  refine DWp.stepAll rfl rfl rfl rfl (Step.storeAs 0 (byteCells ((List.range (i + 1)).map (sb s) ++ List.replicate (64 - (i + 1)) 0)) rfl rfl rfl rfl rfl hBL4 rfl (Unfz.zero _) rfl (by rw [byteCells_length]; simp only [List.length_append, List.length_map, List.length_range, List.length_replicate]; show 0 + i * 1 + 1 ≤ _; omega) (by rw [sbytes_step s i _ (by rw [u32_add, ← ht]; rfl)]; exact row_set (sb s) hi2 (by show 0 + i * 1 = i; omega)) rfl ?_)
  refine DWp.nil ?_
  refine Wp.region ?_
  refine Yz 2 rfl ?_
  exact ⟨i + 1, by omega, by omega, .cons rfl (.cons rfl (.cons rfl (.cons rfl (.cons' rfl (int_eq (i64_inc (by omega))) (.nil _))))), .refl _⟩
 have h1 := of_decide_eq_false h1
 obtain rfl : i = 64 := by omega
 rw [Nat.sub_self, List.replicate_zero, List.append_nil, ← sblock_range hs]
 obtain ⟨x, hx⟩ : ∃ x, x = sblock s := ⟨_, rfl⟩
 have hxl : x.length = 64 := by rw [hx]; exact sblock_len hs.1
 rw [← hx] at H ⊢
 refine Wp.exit ?_
 refine Yq ?_
 refine OWp.load (.head _) rfl rfl rfl rfl (bytes_agg hxl) ?_
 refine OWp.step rfl (Step.storeAs 2 (byteCells x) rfl rfl rfl rfl rfl hBL2 (by show some 64 = some (byteCells x).length; rw [byteCells_length, hxl]) (Unfz.zero _) (byteCells_one x) (by show 0 + (byteCells x).length ≤ _; rw [byteCells_length, byteCells_length, hxl, List.length_replicate]; decide) (wr_all (X := byteCells x) (by rw [byteCells_length, byteCells_length, hxl, List.length_replicate])) rfl ?_)
 have hp : Lg.partAt Tryz.prog 106 (byteCells x) 0 = some (.agg (byteCells x).toArray) := bytes_agg hxl
 refine OWp.nil ?_
 refine Wp.ret ⟨trivial, _, ⟨_, _, _, _, rfl, rfl, ⟨_, _, _, mems, (by first | assumption | rfl)⟩, rfl⟩, ?_⟩
 exact ⟨S, subl, H⟩
end
end Go.Proofs.D
