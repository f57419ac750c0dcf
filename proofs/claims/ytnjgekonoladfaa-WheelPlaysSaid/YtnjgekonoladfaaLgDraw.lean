/- A layer over the weakest preconditions of the model: what is known of memory and of the slots, told by rules. -/
import Derived.Orders
namespace Go.Lg
/-! A region that draws its order, taken in one order: what is taken first bears a promise on memory, which lasts till an operation comes up that waits for it. -/

section
variable {P : Program} {ops : Array Oper} {Q : Exit → Act → World → Prop} {md : Region.Mode}

/-- Operation d waits for operation i. -/
def waits (md : Region.Mode) (ops : Array Oper) (i : Nat) : Nat → Nat → Bool
  | 0, _ => false
  | k + 1, d => match ops[d]? with
    | some o => o.after.toList.any fun e => Region.binds md e && (e.on == i || waits md ops i k e.on)
    | none => false

def Closed (md : Region.Mode) (ops : Array Oper) (l : Array Bool) : Prop :=
  ∀ j o, ops[j]? = some o → l.getD j false = true → ∀ e ∈ o.after, Region.binds md e = true → l.getD e.on false = true

theorem Closed.start (k : Nat) : Closed md ops (Array.replicate k false) := by
  intro j o _ h
  exfalso
  rw [Array.getD_eq_getD_getElem?, Array.getElem?_replicate] at h
  split at h <;> simp at h

theorem Closed.set {l : Array Bool} {i : Nat} (h : Closed md ops l) (hi : i ∈ Region.ready md ops l) : Closed md ops (l.setIfInBounds i true) := by
  obtain ⟨_, oi, hoi, hall⟩ := mem_ready.1 hi
  intro j o ho hl e he hb
  by_cases hij : i = j
  · subst hij
    obtain rfl : o = oi := Option.some.inj (ho.symm.trans hoi)
    exact getD_set_true (hall e he hb)
  · rw [getD_set_ne false hij] at hl
    exact getD_set_true (h j o ho hl e he hb)

theorem waits_listed {l : Array Bool} {i : Nat} (hc : Closed md ops l) : ∀ (k d : Nat), waits md ops i k d = true → l.getD d false = true → l.getD i false = true
  | 0, _, h, _ => by simp [waits] at h
  | k + 1, d, h, hl => by
    unfold waits at h
    cases ho : ops[d]? with
    | none => rw [ho] at h; cases h
    | some o =>
      rw [ho] at h
      simp only [] at h
      rw [List.any_eq_true] at h
      obtain ⟨e, he, hb⟩ := h
      have he : e ∈ o.after := by simpa using he
      rw [Bool.and_eq_true, Bool.or_eq_true] at hb
      have h1 := hc d o ho hl e he hb.1
      rcases hb.2 with h2 | h2
      · rw [beq_iff_eq] at h2; rw [← h2]; exact h1
      · exact waits_listed hc k e.on h2 h1

theorem getD_false_true {l : Array Bool} {i : Nat} (h : l.getD i true = false) : l.getD i false = false := by
  rcases Nat.lt_or_ge i l.size with h' | h'
  · simp [h'] at h ⊢; exact h
  · simp [Array.getElem?_eq_none h'] at h

theorem waits_not_ready {l : Array Bool} {i d k : Nat} (hc : Closed md ops l) (hw : waits md ops i k d = true) (hun : l.getD i true = false) : d ∉ Region.ready md ops l := by
  intro hd
  obtain ⟨_, o, ho, hall⟩ := mem_ready.1 hd
  have h0 := getD_false_true hun
  cases k with
  | zero => simp [waits] at hw
  | succ k =>
    unfold waits at hw
    rw [ho] at hw
    simp only [] at hw
    rw [List.any_eq_true] at hw
    obtain ⟨e, he, hb⟩ := hw
    have he : e ∈ o.after := by simpa using he
    rw [Bool.and_eq_true, Bool.or_eq_true] at hb
    have h1 := hall e he hb.1
    rcases hb.2 with h2 | h2
    · rw [beq_iff_eq] at h2; rw [← h2, h1] at h0; cases h0
    · have := waits_listed hc k e.on h2 h1
      rw [this] at h0; cases h0

/-- A promise: what operation number .1 needs of memory. -/
abbrev Promise := Nat × (World → Prop)

def kept (md : Region.Mode) (ops : Array Oper) (i : Nat) (pr : List Promise) : List Promise := pr.filter fun x => !waits md ops x.1 ops.size i

def wpAnyP (P : Program) (md : Region.Mode) (ops : Array Oper) (Q : Exit → Act → World → Prop) : Nat → Array Bool → List Promise → Act → World → Prop
  | 0, l, _, a, w => Region.ready md ops l = [] ∧ Q .normal a w
  | k + 1, l, pr, a, w =>
    (Region.ready md ops l = [] → Q .normal a w) ∧
    ∀ i ∈ Region.ready md ops l, wpOp P ops Q i (fun a' w' => (∀ x ∈ kept md ops i pr, x.2 w') ∧ wpAnyP P md ops Q k (l.setIfInBounds i true) (kept md ops i pr) a' w') a w

theorem wpAny_of_P : ∀ (k : Nat) (l : Array Bool) (pr : List Promise) (a : Act) (w : World), wpAnyP P md ops Q k l pr a w → wpAny P md ops Q k l a w
  | 0, _, _, _, _, h => h
  | k + 1, _, _, _, _, h => ⟨h.1, fun i hi => wpOp_mono (fun a' w' h' => wpAny_of_P k _ _ a' w' h'.2) (h.2 i hi)⟩

/-- In state a, in every world that meets S, operation o leaves v and does nothing else. -/
def Leaves (P : Program) (ops : Array Oper) (S : World → Prop) (o : Oper) (v : Value) (a : Act) : Prop :=
  (Region.wanted o (yielded ops a.tmps) = true ∧ ∀ w, S w → (execOp a.eval o).run P w = .ok (.value v) w) ∨
  (Region.wanted o (yielded ops a.tmps) = false ∧ v = undef)

theorem Leaves.wpOp {S : World → Prop} {i : Nat} {o : Oper} {v : Value} {a : Act} (hi : ops[i]? = some o) (hy : Leaves P ops S o v a)
    {K : Act → World → Prop} {w : World} (hS : S w) (h : K (a.put o.dst v) w) : wpOp P ops Q i K a w := by
  unfold Go.wpOp
  simp only [hi]
  rcases hy with ⟨hw, hv⟩ | ⟨hw, rfl⟩
  · simp only [hw, if_true, Oper.wp, hv w hS, Oper.upon]; exact .inl h
  · simp only [hw, Bool.false_eq_true, if_false]; exact h

theorem Leaves.of_same {S : World → Prop} {o : Oper} {v : Value} {a a' : Act} (hy : Leaves P ops S o v a) (he : execOp a'.eval o = execOp a.eval o)
    (hw : Region.wanted o (yielded ops a'.tmps) = Region.wanted o (yielded ops a.tmps)) : Leaves P ops S o v a' := by
  unfold Leaves at *
  rw [he, hw]
  exact hy

theorem wpOp_put' {S : World → Prop} {j : Nat} {oi oj : Oper} {v : Value} (hj : ops[j]? = some oj) (hap : oi.apart ops oj = true)
    (hsi : ∀ cs b, oi.op ≠ .select cs b) (hsj : ∀ cs b, oj.op ≠ .select cs b) (hQ : ∀ c a w, Q (.panic c) (a.put oi.dst v) w → Q (.panic c) a w)
    {K : Act → World → Prop} {a : Act} {w : World} (hy : Leaves P ops S oi v a) (h : wpOp P ops Q j K (a.put oi.dst v) w) :
    wpOp P ops Q j (fun a' w' => Leaves P ops S oi v a' ∧ K (a'.put oi.dst v) w') a w := by
  obtain ⟨h1, h2, h3⟩ := Oper.apart_spec hap
  have keep : ∀ (a : Act), Leaves P ops S oi v a → ∀ u, Leaves P ops S oi v (a.put oj.dst u) := fun a hy u =>
    hy.of_same (execOp_put oi hsi a oj.dst u h3) (wanted_put oi a oj.dst u h3)
  have keepD : ∀ d, Leaves P ops S oi v { a with defers := d :: a.defers } := fun d => hy.of_same rfl rfl
  unfold Go.wpOp at *
  simp only [hj] at *
  rw [wanted_put oj a oi.dst v h1] at h
  split
  · rename_i hw
    simp only [hw, if_true] at h
    rcases h with h | ⟨hasks, hlets⟩
    case inr => exact .inr ⟨by unfold Oper.asks at *; rw [execOp_put oj hsj a oi.dst v h1] at hasks; exact hasks, hlets⟩
    refine .inl ?_
    unfold Oper.wp at *
    rw [execOp_put oj hsj a oi.dst v h1] at h
    generalize (execOp a.eval oj).run P w = r at *
    cases r with
    | ok n w' =>
      cases n <;> simp only [Oper.upon] at h ⊢
      case value u => exact ⟨keep a hy u, by rw [← Act.put_comm a v u h2]; exact h⟩
      case skip => exact ⟨keep a hy _, by rw [← Act.put_comm a v undef h2]; exact h⟩
      case defer d =>
        refine ⟨keep _ (keepD d) _, ?_⟩
        rw [← Act.put_comm _ v undef h2, ← Act.put_defers]
        exact h
      case enter f args =>
        refine Calls.mono h fun e w'' he => ?_
        cases e with
        | returned u => exact ⟨keep a hy u, by rw [← Act.put_comm a v u h2]; exact he⟩
        | panicked c => exact hQ _ _ _ he
        | outgrown => exact he
      case row row args => exact Rows.mono h fun u w'' he => ⟨keep a hy u, by rw [← Act.put_comm a v u h2]; exact he⟩
    | halt x w' =>
      cases x <;> simp only [Oper.upon] at h ⊢
      case panic u => exact hQ _ _ _ h
  · rename_i hw
    simp only [hw] at h
    exact ⟨keep a hy _, by rw [← Act.put_comm a v undef h2]; exact h⟩

theorem kept_cons_ne {i j : Nat} {S : World → Prop} {pr : List Promise} (h : waits md ops i ops.size j = false) : kept md ops j ((i, S) :: pr) = (i, S) :: kept md ops j pr := by
  simp [kept, h]

/-- What comes up now may be taken first. -/
theorem wpAnyP_first {i : Nat} {oi : Oper} {v : Value} {S : World → Prop} (hi : ops[i]? = some oi) (hsel : ∀ (j : Nat) (o : Oper) cs b, ops[j]? = some o → o.op ≠ .select cs b)
    (hQ : ∀ c a w, Q (.panic c) (a.put oi.dst v) w → Q (.panic c) a w) :
    ∀ (k : Nat) (l : Array Bool) (pr : List Promise) (a : Act) (w : World), Closed md ops l →
      (∀ j oj, ops[j]? = some oj → j ≠ i → l.getD j true = false → (∀ e ∈ oj.after, Region.binds md e = true → e.on ≠ i) → oi.apart ops oj = true) →
      i ∈ Region.ready md ops l → Leaves P ops S oi v a → S w → (∀ x ∈ kept md ops i pr, x.2 w) →
      wpAnyP P md ops Q k (l.setIfInBounds i true) ((i, S) :: pr) (a.put oi.dst v) w → wpAnyP P md ops Q (k + 1) l pr a w := by
  intro k
  induction k with
  | zero =>
    intro l pr a w _ _ hr hy hS hp H
    refine ⟨fun h => (by rw [h] at hr; cases hr), fun j hj => ?_⟩
    by_cases hji : j = i
    · subst hji; exact hy.wpOp hi hS ⟨hp, H⟩
    · have := ready_mono hj hji
      rw [H.1] at this
      cases this
  | succ k ih =>
    intro l pr a w hc hfree hr hy hS hp H
    refine ⟨fun h => (by rw [h] at hr; cases hr), fun j hj => ?_⟩
    by_cases hji : j = i
    · subst hji
      refine hy.wpOp hi hS ⟨hp, ?_⟩
      exact wpAnyP_drop k.succ _ _ _ _ _ (fun x hx => List.mem_cons_of_mem _ (List.mem_filter.1 hx).1) H
    · have h1 := H.2 j (ready_mono hj hji)
      obtain ⟨hjun, oj, hoj, hall⟩ := mem_ready.1 hj
      have hnot : ∀ e ∈ oj.after, Region.binds md e = true → e.on ≠ i := fun e he hb heq => by
        have h1 := hall e he hb
        have h0 := getD_false_true (mem_ready.1 hr).1
        rw [heq, h0] at h1
        cases h1
      have hnw : waits md ops i ops.size j = false := by
        cases hw : waits md ops i ops.size j with
        | false => rfl
        | true => exact absurd hj (waits_not_ready hc hw (mem_ready.1 hr).1)
      rw [kept_cons_ne hnw] at h1
      have h2 := wpOp_put' hoj (hfree j oj hoj hji hjun hnot) (fun cs b => hsel i oi cs b hi) (fun cs b => hsel j oj cs b hoj) hQ hy h1
      have hfree' : ∀ k ok, ops[k]? = some ok → k ≠ i → (l.setIfInBounds j true).getD k true = false →
          (∀ e ∈ ok.after, Region.binds md e = true → e.on ≠ i) → oi.apart ops ok = true := fun k ok hk hki hun hno => by
        refine hfree k ok hk hki ?_ hno
        by_cases hjk : j = k
        · subst hjk; exact hjun
        · rw [getD_set_ne true hjk] at hun; exact hun
      refine wpOp_mono (fun a' w' h3 => ?_) h2
      obtain ⟨hl, hpr, hrest⟩ := h3
      refine ⟨fun x hx => hpr x (List.mem_cons_of_mem _ hx), ?_⟩
      refine ih (l.setIfInBounds j true) _ a' w' (hc.set hj) hfree' (ready_mono hr (Ne.symm hji)) hl (hpr (i, S) (by simp)) ?_ ?_
      · intro x hx
        exact hpr x (List.mem_cons_of_mem _ (List.mem_filter.1 hx).1)
      · rw [Array.setIfInBounds_comm _ _ hji]
        exact hrest
where
  wpAnyP_drop : ∀ (k : Nat) (l : Array Bool) (pr pr' : List Promise) (a : Act) (w : World), (∀ x ∈ pr', x ∈ pr) → wpAnyP P md ops Q k l pr a w → wpAnyP P md ops Q k l pr' a w
    | 0, _, _, _, _, _, _, h => h
    | k + 1, l, pr, pr', a, w, hs, h => by
      refine ⟨h.1, fun i hi => wpOp_mono (fun a' w' h' => ?_) (h.2 i hi)⟩
      have hs' : ∀ x ∈ kept md ops i pr', x ∈ kept md ops i pr := fun x hx => by
        rw [kept, List.mem_filter] at hx ⊢
        exact ⟨hs x hx.1, hx.2⟩
      exact ⟨fun x hx => h'.1 x (hs' x hx), wpAnyP_drop k _ _ _ _ _ hs' h'.2⟩

end
end Go.Lg
