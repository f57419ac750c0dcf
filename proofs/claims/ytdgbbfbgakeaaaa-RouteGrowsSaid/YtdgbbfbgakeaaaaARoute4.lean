/- What functions of the given program do, one after the other, told by that layer. -/
import Derived.Test.YtdgbbfbgakeaaaaARoute3
namespace Go.Proofs.C
open Go.Lg
set_option maxRecDepth 100000

/-- Commands that go on, and a last one that doesn't. -/
def shape : List Hop → Prop
  | [] => False
  | [x] => x.kind ≠ 1
  | x :: y :: r => x.kind = 1 ∧ shape (y :: r)
instance shapeDec : (l : List Hop) → Decidable (shape l)
  | [] => by unfold shape; infer_instance
  | [x] => by unfold shape; infer_instance
  | x :: y :: r => by have := shapeDec (y :: r); unfold shape; infer_instance
theorem shape_iff : ∀ (l : List Hop), shape l ↔ 0 < l.length ∧ ∀ i (h : i < l.length), (l[i].kind = 1 ↔ i < l.length - 1)
  | [] => by simp [shape]
  | [x] => by simp [shape]
  | x :: y :: r => by
    have ih := shape_iff (y :: r)
    simp only [shape]
    constructor
    · rintro ⟨hx, hs⟩
      refine ⟨by simp, fun i h => ?_⟩
      cases i with
      | zero => simp [hx]
      | succ i =>
        have := (ih.1 hs).2 i (by simpa using h)
        simp only [List.getElem_cons_succ, List.length_cons] at this ⊢
        rw [this]; omega
    · rintro ⟨_, hs⟩
      refine ⟨by have := hs 0 (by simp); simpa using this, ih.2 ⟨by simp, fun i h => ?_⟩⟩
      have := hs (i + 1) (by simpa using h)
      simp only [List.getElem_cons_succ, List.length_cons] at this ⊢
      rw [this]; omega

def pathE (l : List Hop) : Int := if ∀ x ∈ l, hopP x then (if shape l ∧ l.length ≤ 5 then 0 else 4) else 70
theorem pathE_bad {l : List Hop} {x : Hop} (h : x ∈ l) (hx : ¬ hopP x) : pathE l = 70 := if_neg fun e => hx (e x h)
theorem pathE_good {l : List Hop} (h : ∀ x ∈ l, hopP x) : pathE l = if shape l ∧ l.length ≤ 5 then 0 else 4 := if_pos h

theorem hop_flat (l : List Hop) : ∀ x ∈ l, (Hop.cells x).length = 5 := fun _ _ => rfl

section
variable {B : Nat} {S R : Ents} {Q : Value → Ents → Prop}

theorem path1C {x : Hop} (h : Q (.bool (decide (¬ hopP x))) S) : CallWp Try.prog B 83 #[.agg x.cells.toArray] Q S := by
  refine CallWp.enter (args := [_]) Try.func83 rfl Try.ntmps83 rfl ?_
  refine Wp.seq (Wp.region ?_)
  refine OWp.step rfl (Step.box rfl rfl rfl ?_); intro L1 hBL1 hLL1
  refine OWp.evs 1 rfl ?_
  refine OWp.nil ?_
  refine Wp.seq (Wp.region ?_)
  first | refine OWp.load (List.Mem.head _) rfl rfl rfl rfl rfl ?_ | refine OWp.load (List.Mem.tail _ (List.Mem.head _)) rfl rfl rfl rfl rfl ?_ | refine OWp.load (List.Mem.tail _ (List.Mem.tail _ (List.Mem.head _))) rfl rfl rfl rfl rfl ?_ | refine OWp.load (List.Mem.tail _ (List.Mem.tail _ (List.Mem.tail _ (List.Mem.head _)))) rfl rfl rfl rfl rfl ?_ | refine OWp.load (List.Mem.tail _ (List.Mem.tail _ (List.Mem.tail _ (List.Mem.tail _ (List.Mem.head _))))) rfl rfl rfl rfl rfl ?_ | refine OWp.load (List.Mem.tail _ (List.Mem.tail _ (List.Mem.tail _ (List.Mem.tail _ (List.Mem.tail _ (List.Mem.head _)))))) rfl rfl rfl rfl rfl ?_
  refine OWp.step rfl (Step.call rfl rfl rfl rfl rfl rfl ((checkC (x := x) ?_)))
  by_cases hp : hopP x
  · skip
    rw [hopE_yes hp]
    rw [decide_eq_false (by simpa using hp)] at h
    refine OWp.evs 2 rfl ?_
    refine OWp.nil ?_
    refine Wp.drop (S' := S) (by repeat (first | exact List.Sublist.refl _ | exact List.sublist_append_right _ _ | apply List.Sublist.cons)) ?_
    refine Wp.ret ⟨trivial, _, ⟨_, _, rfl, rfl, rfl⟩, ?_⟩
    exact h
  rw [hopE_no hp]
  rw [decide_eq_true hp] at h
  refine OWp.evs 2 rfl ?_
  refine OWp.nil ?_
  refine Wp.drop (S' := S) (by repeat (first | exact List.Sublist.refl _ | exact List.sublist_append_right _ _ | apply List.Sublist.cons)) ?_
  refine Wp.ret ⟨trivial, _, ⟨_, _, rfl, rfl, rfl⟩, ?_⟩
  exact h
theorem path2C {x : Hop} (h : Q (.bool (decide (x.kind ≠ 1))) S) : CallWp Try.prog B 85 #[.agg x.cells.toArray] Q S := by
  refine CallWp.enter (args := [_]) Try.func85 rfl Try.ntmps85 rfl ?_
  refine Wp.seq (Wp.region ?_)
  refine OWp.step rfl (Step.box rfl rfl rfl ?_); intro L1 hBL1 hLL1
  refine OWp.evs 1 rfl ?_
  refine OWp.nil ?_
  refine Wp.seq (Wp.region ?_)
  refine OWp.evs 1 rfl ?_
  first | refine OWp.load (List.Mem.head _) rfl rfl rfl rfl rfl ?_ | refine OWp.load (List.Mem.tail _ (List.Mem.head _)) rfl rfl rfl rfl rfl ?_ | refine OWp.load (List.Mem.tail _ (List.Mem.tail _ (List.Mem.head _))) rfl rfl rfl rfl rfl ?_ | refine OWp.load (List.Mem.tail _ (List.Mem.tail _ (List.Mem.tail _ (List.Mem.head _)))) rfl rfl rfl rfl rfl ?_ | refine OWp.load (List.Mem.tail _ (List.Mem.tail _ (List.Mem.tail _ (List.Mem.tail _ (List.Mem.head _))))) rfl rfl rfl rfl rfl ?_ | refine OWp.load (List.Mem.tail _ (List.Mem.tail _ (List.Mem.tail _ (List.Mem.tail _ (List.Mem.tail _ (List.Mem.head _)))))) rfl rfl rfl rfl rfl ?_
  refine OWp.evs 2 rfl ?_
  refine OWp.nil ?_
  refine Wp.drop (S' := S) (by repeat (first | exact List.Sublist.refl _ | exact List.sublist_append_right _ _ | apply List.Sublist.cons)) ?_
  refine Wp.ret ⟨trivial, _, ⟨_, _, rfl, rfl, rfl⟩, ?_⟩
  rw [decide_not] at h
  exact h
theorem hopIndex {v : Value} {n : Nat} {l : List Hop} {g : FuncId} {f : Hop → Bool} (hc : callable Try.prog g = true) (hl : Reads S 5 v n (l.flatMap Hop.cells)) (hn : l.length = n) (hm : n ≤ lim)
    (hf : ∀ x ∈ l, ∀ Q' : Value → Ents → Prop, Q' (.bool (f x)) S → CallWp Try.prog B g #[.agg x.cells.toArray] Q' S)
    (h0 : (∀ x ∈ l, f x = false) → Q (.int .i64 (-1)) S)
    (h1 : ∀ j (hj : j < l.length), (∀ i (hi : i < j), f l[i] = false) → f l[j] = true → Q (.int .i64 (j : Int)) S) :
    CallWp Try.prog B 84 #[v, .func (.func g) #[] #[]] Q S := by
  obtain ⟨aa, ac, rfl⟩ := hl.form
  subst hn
  unfold lim at hm
  refine CallWp.enter (args := [_, _]) Try.func84 rfl Try.ntmps84 rfl ?_
  refine Wp.seq (Wp.region ?_)
  refine OWp.evs 1 rfl ?_
  refine OWp.nil ?_
  refine Wp.seq ?_
  refine Wp.seq (Wp.region ?_)
  refine OWp.evs 3 rfl ?_
  refine OWp.nil ?_
  refine Wp.block ?_
  refine Wp.loopS (α := Nat) (fun i => l.length - i) (fun i => [(8, .int .i64 (i : Int)), (7, .int .i64 (l.length : Int)), (0, .slice aa l.length ac), (1, .func (.func g) #[] #[])]) (fun _ => S) (fun i => i ≤ l.length ∧ ∀ k (hk : k < l.length), k < i → f l[k] = false) 0 ?_ (.refl _) ⟨Nat.zero_le _, fun _ _ h => by omega⟩ ?_
  · exact .cons rfl (.cons rfl (.cons rfl (.cons rfl (.nil _))))
  rintro i ⟨hi, he⟩
  refine Wp.seq (Wp.region ?_)
  refine OWp.evs 1 rfl ?_
  refine OWp.nil ?_
  refine Wp.seq ?_
  refine Wp.cond rfl (fun h2 => ?_) (fun h2 => ?_)
  · have h2 := of_decide_eq_true h2
    have hlt : i < l.length := by omega
    obtain ⟨b, o, cap', l', e, fz, hv, hm', hat⟩ := hl.elem (sz := 5) (hop_flat l) (by omega)
    cases hv
    refine Wp.skip ?_
    refine Wp.seq ?_
    refine Wp.block ?_
    refine Wp.seq (Wp.region ?_)
    refine OWp.evs 2 rfl ?_
    refine OWp.nil ?_
    refine Wp.seq (Wp.region ?_)
    refine OWp.evs 3 rfl ?_
    refine OWp.g rfl rfl (Gives.indexAddrSlice (i) rfl rfl rfl rfl rfl rfl (by omega)) ?_
    refine OWp.load (hm') rfl rfl rfl rfl (partAt_agg (hat i hlt) rfl rfl rfl) ?_
    refine OWp.step rfl (Step.call rfl rfl rfl rfl rfl hc (hf l[i] (List.getElem_mem hlt) _ ?_))
    generalize hb : f l[i] = b
    cases b
    · skip
      refine OWp.nil ?_
      refine Wp.cond rfl (fun c => nomatch c) (fun _ => ?_)
      refine Wp.skip ?_
      refine Wp.region ?_
      refine OWp.evs 2 rfl ?_
      refine OWp.nil ?_
      refine ⟨i + 1, by omega, ⟨by omega, fun k hk hki => ?_⟩, ?_, .refl _⟩
      · by_cases e : k = i
        · subst e; exact hb
        · exact he k hk (by omega)
      · exact .cons' rfl (int_eq (by rw [i64_id] <;> omega)) (.cons rfl (.cons rfl (.cons rfl (.nil _))))
    refine OWp.nil ?_
    refine Wp.cond rfl (fun _ => ?_) (fun c => nomatch c)
    refine Wp.seq (Wp.region ?_)
    refine OWp.evs 2 rfl ?_
    refine OWp.nil ?_
    refine Wp.ret ⟨trivial, _, ⟨_, _, rfl, rfl, rfl⟩, ?_⟩
    exact h1 i hlt (fun k hk => he k (by omega) hk) hb
  have h2 := of_decide_eq_false h2
  refine Wp.exit ?_
  refine Wp.seq (Wp.region ?_)
  refine OWp.evs 1 rfl ?_
  refine OWp.nil ?_
  refine Wp.ret ⟨trivial, _, ⟨_, _, rfl, rfl, rfl⟩, ?_⟩
  refine h0 fun x hx => ?_
  obtain ⟨k, hk, rfl⟩ := List.mem_iff_getElem.1 hx
  exact he k hk (by omega)
theorem hopContains {v : Value} {n : Nat} {l : List Hop} {g : FuncId} {f : Hop → Bool} (hc : callable Try.prog g = true) (hl : Reads S 5 v n (l.flatMap Hop.cells)) (hn : l.length = n) (hm : n ≤ lim)
    (hf : ∀ x ∈ l, ∀ (Q' : Value → Ents → Prop), Q' (.bool (f x)) S → CallWp Try.prog B g #[.agg x.cells.toArray] Q' S) (h : Q (.bool (l.any f)) S) :
    CallWp Try.prog B 82 #[v, .func (.func g) #[] #[]] Q S := by
  refine CallWp.enter (args := [_, _]) Try.func82 rfl Try.ntmps82 rfl ?_
  refine Wp.seq (Wp.region ?_)
  refine OWp.evs 1 rfl ?_
  refine OWp.nil ?_
  refine Wp.seq (Wp.region ?_)
  refine OWp.evs 2 rfl ?_
  refine OWp.step rfl (Step.call rfl rfl rfl rfl rfl rfl ((hopIndex hc hl hn hm hf ?_ ?_)))
  intro h0
  · skip
    refine OWp.evs 2 rfl ?_
    refine OWp.nil ?_
    refine Wp.ret ⟨trivial, _, ⟨_, _, rfl, rfl, rfl⟩, ?_⟩
    rw [show l.any f = false from List.any_eq_false.2 fun x hx => by simp [h0 x hx]] at h
    exact h
  intro j hj _ hj1
  refine OWp.evs 2 rfl ?_
  refine OWp.nil ?_
  refine Wp.ret ⟨trivial, _, ⟨_, _, rfl, rfl, rfl⟩, ?_⟩
  rw [show l.any f = true from List.any_eq_true.2 ⟨l[j], List.getElem_mem hj, hj1⟩] at h
  rw [decide_eq_true (by omega)]
  exact h
theorem pathC {v : Value} {n : Nat} {l : List Hop} (hl : Reads S 5 v n (l.flatMap Hop.cells)) (hn : l.length = n) (hm : n ≤ lim) (h : Q (.int .i64 (pathE l)) S) : CallWp Try.prog B 45 #[v] Q S := by
  obtain ⟨aa, ac, rfl⟩ := hl.form
  have hm' := hm
  unfold lim at hm'
  refine CallWp.enter (args := [_]) Try.func45 rfl Try.ntmps45 rfl ?_
  refine Wp.seq (Wp.region ?_)
  refine OWp.evs 1 rfl ?_
  refine OWp.nil ?_
  refine Wp.seq ?_
  refine Wp.seq (Wp.region ?_)
  refine OWp.evs 1 rfl ?_
  refine OWp.step rfl (Step.call rfl rfl rfl rfl rfl rfl ((hopContains (f := fun x => decide (¬ hopP x)) rfl hl hn hm (fun x _ Q' hq => path1C hq) ?_)))
  generalize hb : l.any (fun x => decide (¬ hopP x)) = b
  cases b
  · skip
    refine OWp.nil ?_
    refine Wp.cond rfl (fun c => nomatch c) (fun _ => ?_)
    have hg : ∀ x ∈ l, hopP x := fun x hx => by
      have := List.any_eq_false.1 hb x hx
      simpa using this
    rw [pathE_good hg] at h
    refine Wp.skip ?_
    refine Wp.seq (Wp.region ?_)
    refine OWp.evs 1 rfl ?_
    refine OWp.step rfl (Step.call rfl rfl rfl rfl rfl rfl ((hopIndex (f := fun x => decide (x.kind ≠ 1)) rfl hl hn hm (fun x _ Q' hq => path2C hq) ?_ ?_)))
    intro h0
    · skip
      refine OWp.evs 1 rfl ?_
      refine OWp.nil ?_
      refine Wp.seq ?_
      refine Wp.seq (Wp.region ?_)
      refine OWp.evs 3 rfl ?_
      refine OWp.evs 11 rfl ?_
      refine OWp.nil ?_
      refine Wp.cond rfl (fun _ => ?_) (fun c => nomatch c)
      refine Wp.seq (Wp.region ?_)
      refine OWp.evs 1 rfl ?_
      refine OWp.nil ?_
      refine Wp.ret ⟨trivial, _, ⟨_, _, rfl, rfl, rfl⟩, ?_⟩
      have hs : ¬ shape l := fun hs => by
        obtain ⟨hp, hs⟩ := (shape_iff l).1 hs
        have := hs (l.length - 1) (by omega)
        have h2 := h0 l[l.length - 1] (List.getElem_mem _)
        have h2 : l[l.length - 1].kind = 1 := by simpa using h2
        omega
      rw [if_neg (fun e => hs e.1)] at h
      exact h
    intro j hj hj0 hj1
    refine OWp.evs 1 rfl ?_
    refine OWp.nil ?_
    refine Wp.seq ?_
    refine Wp.seq (Wp.region ?_)
    refine OWp.evs 3 rfl ?_
    refine OWp.part 10 rfl (fun cc1 => absurd (of_decide_eq_true cc1) (by omega)) (fun cc1 => ?_)
    have cc1 := of_decide_eq_false cc1
    refine OWp.evs 7 rfl ?_
    refine OWp.part 17 rfl (fun e1 => ?_) (fun e1 => ?_)
    · have e1 := ndT e1
      refine OWp.evs 4 rfl ?_
      refine OWp.nil ?_
      refine Wp.cond rfl (fun _ => ?_) (fun c => nomatch c)
      refine Wp.seq (Wp.region ?_)
      refine OWp.evs 1 rfl ?_
      refine OWp.nil ?_
      refine Wp.ret ⟨trivial, _, ⟨_, _, rfl, rfl, rfl⟩, ?_⟩
      rw [i64_id (by omega) (by omega)] at e1
      rw [if_neg (fun e => by
        obtain ⟨hp, hs⟩ := (shape_iff l).1 e.1
        have h2 : l[j].kind ≠ 1 := by simpa using hj1
        have := hs j hj
        omega)] at h
      exact h
    have e1 := ndF e1
    rw [i64_id (by omega) (by omega)] at e1
    have hs : shape l := (shape_iff l).2 ⟨by omega, fun i hi => by
      by_cases e : i = j
      · subst e
        have h2 : l[i].kind ≠ 1 := by simpa using hj1
        constructor
        · intro h; exact absurd h h2
        · intro h; omega
      · have h2 := hj0 i (by omega)
        have h2 : l[i].kind = 1 := by simpa using h2
        constructor
        · intro _; omega
        · intro _; exact h2⟩
    refine OWp.evs 4 rfl ?_
    refine OWp.nil ?_
    refine Wp.cond rfl (fun e2 => ?_) (fun e2 => ?_)
    · have e2 := of_decide_eq_true e2
      refine Wp.seq (Wp.region ?_)
      refine OWp.evs 1 rfl ?_
      refine OWp.nil ?_
      refine Wp.ret ⟨trivial, _, ⟨_, _, rfl, rfl, rfl⟩, ?_⟩
      rw [if_neg (fun e => by omega)] at h
      exact h
    have e2 := of_decide_eq_false e2
    refine Wp.skip ?_
    refine Wp.seq (Wp.region ?_)
    refine OWp.evs 1 rfl ?_
    refine OWp.nil ?_
    refine Wp.ret ⟨trivial, _, ⟨_, _, rfl, rfl, rfl⟩, ?_⟩
    rw [if_pos ⟨hs, by omega⟩] at h
    exact h
  refine OWp.nil ?_
  refine Wp.cond rfl (fun _ => ?_) (fun c => nomatch c)
  refine Wp.seq (Wp.region ?_)
  refine OWp.evs 1 rfl ?_
  refine OWp.nil ?_
  refine Wp.ret ⟨trivial, _, ⟨_, _, rfl, rfl, rfl⟩, ?_⟩
  obtain ⟨x, hx, hx2⟩ := List.any_eq_true.1 hb
  rw [pathE_bad hx (of_decide_eq_true hx2)] at h
  exact h
theorem rpathC {v : Value} {n : Nat} {l : List Hop} (hl : Reads S 5 v n (l.flatMap Hop.cells)) (hn : l.length = n) (hm : n ≤ lim) (h : Q (.int .i64 (pathE l)) S) : CallWp Try.prog B 46 #[v] Q S := by
  obtain ⟨aa, ac, rfl⟩ := hl.form
  subst hn
  unfold lim at hm
  refine CallWp.enter (args := [_]) Try.func46 rfl Try.ntmps46 rfl ?_
  refine Wp.seq (Wp.region ?_)
  refine OWp.evs 1 rfl ?_
  refine OWp.nil ?_
  refine Wp.seq ?_
  refine Wp.seq (Wp.region ?_)
  refine OWp.evs 1 rfl ?_
  refine OWp.nil ?_
  refine Wp.block ?_
  refine Wp.loopS (α := Nat) (fun i => l.length - i) (fun i => [(3, .int .i64 (i : Int)), (0, .slice aa l.length ac)]) (fun _ => S) (fun i => i ≤ l.length ∧ ∀ k (hk : k < l.length), k < i → hopP l[k]) 0 ?_ (.refl _) ⟨Nat.zero_le _, fun _ _ h => by omega⟩ ?_
  · exact .cons rfl (.cons rfl (.nil _))
  rintro i ⟨hi, he⟩
  refine Wp.seq ?_
  refine Wp.seq (Wp.region ?_)
  refine OWp.evs 4 rfl ?_
  refine OWp.nil ?_
  refine Wp.cond rfl (fun h2 => ?_) (fun h2 => ?_)
  · have h2 := of_decide_eq_true h2
    have hlt : i < l.length := by omega
    obtain ⟨b, o, cap', l', e, fz, hv, hm', hat⟩ := hl.elem (sz := 5) (hop_flat l) (by omega)
    cases hv
    refine Wp.skip ?_
    refine Wp.seq ?_
    refine Wp.block ?_
    refine Wp.seq (Wp.region ?_)
    refine OWp.evs 2 rfl ?_
    refine OWp.g rfl rfl (Gives.indexAddrSlice (i) rfl rfl rfl rfl rfl rfl (by omega)) ?_
    refine OWp.load (hm') rfl rfl rfl rfl (partAt_agg (hat i hlt) rfl rfl rfl) ?_
    refine OWp.step rfl (Step.call rfl rfl rfl rfl rfl rfl ((rcheckC (x := l[i]) ?_)))
    by_cases hp : hopP l[i]
    · skip
      rw [hopE_yes hp]
      refine OWp.evs 1 rfl ?_
      refine OWp.nil ?_
      refine Wp.seq (Wp.region ?_)
      refine OWp.evs 2 rfl ?_
      refine OWp.nil ?_
      refine Wp.cond rfl (fun c => nomatch c) (fun _ => ?_)
      refine Wp.skip ?_
      refine Wp.region ?_
      refine OWp.evs 3 rfl ?_
      refine OWp.nil ?_
      refine ⟨i + 1, by omega, ⟨by omega, fun k hk hki => ?_⟩, ?_, .refl _⟩
      · by_cases e : k = i
        · subst e; exact hp
        · exact he k hk (by omega)
      · exact .cons' rfl (int_eq (by rw [i64_id] <;> omega)) (.cons rfl (.nil _))
    rw [hopE_no hp]
    refine OWp.evs 1 rfl ?_
    refine OWp.nil ?_
    refine Wp.seq (Wp.region ?_)
    refine OWp.evs 2 rfl ?_
    refine OWp.nil ?_
    refine Wp.cond rfl (fun _ => ?_) (fun c => nomatch c)
    refine Wp.seq (Wp.region ?_)
    refine OWp.evs 2 rfl ?_
    refine OWp.nil ?_
    refine Wp.ret ⟨trivial, _, ⟨_, _, rfl, rfl, rfl⟩, ?_⟩
    rw [pathE_bad (List.getElem_mem hlt) hp] at h
    exact h
  have h2 := of_decide_eq_false h2
  have hg : ∀ x ∈ l, hopP x := fun x hx => by
    obtain ⟨k, hk, rfl⟩ := List.mem_iff_getElem.1 hx
    exact he k hk (by omega)
  rw [pathE_good hg] at h
  refine Wp.exit ?_
  refine Wp.seq ?_
  refine Wp.seq (Wp.region ?_)
  refine OWp.evs 4 rfl ?_
  refine OWp.part 23 rfl (fun e1 => ?_) (fun e1 => ?_)
  · have e1 := of_decide_eq_true e1
    refine OWp.evs 4 rfl ?_
    refine OWp.nil ?_
    refine Wp.cond rfl (fun _ => ?_) (fun c => nomatch c)
    refine Wp.seq (Wp.region ?_)
    refine OWp.evs 1 rfl ?_
    refine OWp.nil ?_
    refine Wp.ret ⟨trivial, _, ⟨_, _, rfl, rfl, rfl⟩, ?_⟩
    rw [if_neg (fun e => by have := ((shape_iff l).1 e.1).1; omega)] at h
    exact h
  have e1 := of_decide_eq_false e1
  refine OWp.evs 4 rfl ?_
  refine OWp.nil ?_
  refine Wp.cond rfl (fun e2 => ?_) (fun e2 => ?_)
  · have e2 := of_decide_eq_true e2
    refine Wp.seq (Wp.region ?_)
    refine OWp.evs 1 rfl ?_
    refine OWp.nil ?_
    refine Wp.ret ⟨trivial, _, ⟨_, _, rfl, rfl, rfl⟩, ?_⟩
    rw [if_neg (fun e => by omega)] at h
    exact h
  have e2 := of_decide_eq_false e2
  refine Wp.skip ?_
  refine Wp.seq ?_
  refine Wp.seq (Wp.region ?_)
  refine OWp.evs 1 rfl ?_
  refine OWp.nil ?_
  refine Wp.block ?_
  refine Wp.loopS (α := Nat) (fun i => l.length - i) (fun i => [(5, .int .i64 (i : Int)), (0, .slice aa l.length ac)]) (fun _ => S) (fun i => i ≤ l.length ∧ ∀ k (hk : k < l.length), k < i → (l[k].kind = 1 ↔ k < l.length - 1)) 0 ?_ (.refl _) ⟨Nat.zero_le _, fun _ _ h => by omega⟩ ?_
  · exact .cons rfl (.cons rfl (.nil _))
  rintro j ⟨hj, hs⟩
  refine Wp.seq ?_
  refine Wp.seq (Wp.region ?_)
  refine OWp.evs 4 rfl ?_
  refine OWp.nil ?_
  refine Wp.cond rfl (fun h3 => ?_) (fun h3 => ?_)
  · have h3 := of_decide_eq_true h3
    have hlt : j < l.length := by omega
    obtain ⟨b, o, cap', l', e, fz, hv, hm', hat⟩ := hl.elem (sz := 5) (hop_flat l) (by omega)
    cases hv
    refine Wp.skip ?_
    refine Wp.seq ?_
    refine Wp.block ?_
    refine Wp.seq (Wp.region ?_)
    refine OWp.evs 2 rfl ?_
    refine OWp.g rfl rfl (Gives.indexAddrSlice (j) rfl rfl rfl rfl rfl rfl (by omega)) ?_
    refine OWp.evs 1 rfl ?_
    refine OWp.load (hm') rfl rfl rfl rfl ((partAt_in (m := 0) (hat j hlt) rfl (by decide) (by decide)).trans rfl) ?_
    have e3 : (decide (l[j].kind = 1) == decide ((j : Int) < IntKind.i64.wrap ((l.length : Int) - 1))) = decide (l[j].kind = 1 ↔ j < l.length - 1) := by
      rw [i64_id (by omega) (by omega), Bool.eq_iff_iff]
      by_cases q1 : l[j].kind = 1 <;> by_cases q2 : j < l.length - 1 <;> simp [q1, q2] <;> omega
    refine OWp.evs 7 rfl ?_
    refine OWp.nil ?_
    refine Wp.cond rfl (fun h4 => ?_) (fun h4 => ?_)
    · skip
      refine Wp.seq (Wp.region ?_)
      refine OWp.evs 1 rfl ?_
      refine OWp.nil ?_
      refine Wp.ret ⟨trivial, _, ⟨_, _, rfl, rfl, rfl⟩, ?_⟩
      have h4 : (decide (l[j].kind = 1) == decide ((j : Int) < IntKind.i64.wrap ((l.length : Int) - 1))) = false := by simpa using h4
      rw [e3] at h4
      rw [if_neg (fun e => of_decide_eq_false h4 (((shape_iff l).1 e.1).2 j hlt))] at h
      exact h
    have h4 : (decide (l[j].kind = 1) == decide ((j : Int) < IntKind.i64.wrap ((l.length : Int) - 1))) = true := by simpa using h4
    rw [e3] at h4
    refine Wp.skip ?_
    refine Wp.region ?_
    refine OWp.evs 3 rfl ?_
    refine OWp.nil ?_
    refine ⟨j + 1, by omega, ⟨by omega, fun k hk hki => ?_⟩, ?_, .refl _⟩
    · by_cases e : k = j
      · subst e; exact of_decide_eq_true h4
      · exact hs k hk (by omega)
    · exact .cons' rfl (int_eq (by rw [i64_id] <;> omega)) (.cons rfl (.nil _))
  have h3 := of_decide_eq_false h3
  refine Wp.exit ?_
  refine Wp.seq (Wp.region ?_)
  refine OWp.evs 1 rfl ?_
  refine OWp.nil ?_
  refine Wp.ret ⟨trivial, _, ⟨_, _, rfl, rfl, rfl⟩, ?_⟩
  rw [if_pos ⟨(shape_iff l).2 ⟨by omega, fun k hk => hs k hk (by omega)⟩, by omega⟩] at h
  exact h
end
end Go.Proofs.C
