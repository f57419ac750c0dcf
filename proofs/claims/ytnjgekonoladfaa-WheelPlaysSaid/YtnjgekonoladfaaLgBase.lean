/- A layer over the weakest preconditions of the model: what is known of memory and of the slots, told by rules. -/
import Derived.WalkKit
import Derived.Below
import Derived.OrdersHeld
namespace Go.Lg
open Go.RowKit (Below)

/-- What is known of memory: blocks and what they hold. -/
abbrev Ents := List (Nat × Obj)

/-- The world holds what S tells; what stands from B on stands in S once. -/
structure Sim (B : Nat) (S : Ents) (w : World) : Prop where
  holds : ∀ x ∈ S, w.heap[x.1]? = some x.2
  own : S.Pairwise fun x y => x.1 = y.1 → x.1 < B
  base : B ≤ w.heap.size

/-- What is known of a frame's slots: the newest first. -/
abbrev Env := List (Nat × Value)

def Env.get : Env → Nat → Option Value
  | [], _ => none
  | (m, v) :: E, n => match Nat.beq m n with
    | true => some v
    | false => Env.get E n

structure Agree (E : Env) (n : Nat) (a : Act) : Prop where
  reads : ∀ d v, Env.get E d = some v → a.tmps[d]? = some v
  size : a.tmps.size = n
  defers : a.defers = []

theorem Env.get_cons (m : Nat) (v : Value) (E : Env) (n : Nat) : Env.get ((m, v) :: E) n = if m = n then some v else Env.get E n := by
  simp only [Env.get]
  cases h : Nat.beq m n with
  | true => simp [Nat.eq_of_beq_eq_true h]
  | false =>
    have : m ≠ n := fun e => by subst e; simp at h
    simp [this]

theorem Agree.put {E : Env} {n : Nat} {a : Act} (h : Agree E n a) (d : Nat) (v : Value) (hd : d < n) : Agree ((d, v) :: E) n (a.put (some d) v) := by
  refine ⟨fun k u hk => ?_, by simp [Act.put, h.size], by simp [Act.put, h.defers]⟩
  rw [Env.get_cons] at hk
  simp only [Act.put, Array.getElem?_setIfInBounds, h.size]
  split at hk
  · rename_i e; subst e; simp [hd]; exact Option.some.inj hk
  · rename_i e; simp [e, h.reads k u hk]

theorem Agree.put_none {E : Env} {n : Nat} {a : Act} (h : Agree E n a) (v : Value) : Agree E n (a.put none v) := h

def Env.Sub (E' E : Env) : Prop := ∀ d v, Env.get E' d = some v → Env.get E d = some v

theorem Agree.sub {E E' : Env} {n : Nat} {a : Act} (h : Agree E n a) (hs : Env.Sub E' E) : Agree E' n a :=
  ⟨fun d v hd => h.reads d v (hs d v hd), h.size, h.defers⟩

theorem Env.Sub.nil (E : Env) : Env.Sub [] E := fun _ _ h => by simp [Env.get] at h
theorem Env.Sub.cons {E' E : Env} {d : Nat} {v : Value} (h : Env.get E d = some v) (hs : Env.Sub E' E) : Env.Sub ((d, v) :: E') E := by
  intro k u hk
  rw [Env.get_cons] at hk
  split at hk
  · rename_i e; subst e; rw [h]; exact hk
  · exact hs k u hk
theorem Env.Sub.refl (E : Env) : Env.Sub E E := fun _ _ h => h
theorem Env.Sub.trans {A B C : Env} (h : Env.Sub A B) (k : Env.Sub B C) : Env.Sub A C := fun d v e => k d v (h d v e)

/-- What a piece of code that began at world w leaves behind. -/
def Post (B n : Nat) (Q : Exit → Env → Ents → Prop) (w : World) : Exit → Act → World → Prop := fun e a w' =>
  (match e with | .panic _ => False | _ => True) ∧ ∃ E S, Below B w w' ∧ Sim B S w' ∧ Agree E n a ∧ Q e E S

def Wp (P : Program) (B n : Nat) (c : Code) (Q : Exit → Env → Ents → Prop) (E : Env) (S : Ents) : Prop :=
  ∀ a w, Sim B S w → Agree E n a → c.wp P (Post B n Q w) a w

/-- A call of function f comes back, with what Q says. -/
def CallWp (P : Program) (B : Nat) (f : FuncId) (args : Array Value) (Q : Value → Ents → Prop) (S : Ents) : Prop :=
  ∀ w, Sim B S w → Calls P f args w fun e w' => ∃ v S', e = .returned v ∧ Below B w w' ∧ Sim B S' w' ∧ Q v S'

theorem CallWp.mono {P : Program} {B : Nat} {f : FuncId} {args : Array Value} {Q Q' : Value → Ents → Prop} {S : Ents}
    (h : CallWp P B f args Q S) (hq : ∀ v S', Q v S' → Q' v S') : CallWp P B f args Q' S :=
  fun w hS => (h w hS).mono fun _ _ ⟨v, S', e, hb, hs, q⟩ => ⟨v, S', e, hb, hs, hq v S' q⟩

section
variable {P : Program} {B n : Nat} {Q : Exit → Env → Ents → Prop} {E : Env} {S : Ents}

theorem Post.mono {Q' : Exit → Env → Ents → Prop} {w : World} (hq : ∀ e E S, Q e E S → Q' e E S) {e : Exit} {a : Act} {w' : World}
    (h : Post B n Q w e a w') : Post B n Q' w e a w' := by
  obtain ⟨hp, E, S, hb, hs, ha, q⟩ := h
  exact ⟨hp, E, S, hb, hs, ha, hq _ _ _ q⟩

theorem Post.later {w w' : World} (hb : Below B w w') {e : Exit} {a : Act} {w'' : World} (h : Post B n Q w' e a w'') : Post B n Q w e a w'' := by
  obtain ⟨hp, E, S, hb', hs, ha, q⟩ := h
  exact ⟨hp, E, S, hb.trans hb', hs, ha, q⟩

theorem Wp.mono {c : Code} {Q' : Exit → Env → Ents → Prop} (h : Wp P B n c Q E S) (hq : ∀ e E S, Q e E S → Q' e E S) : Wp P B n c Q' E S :=
  fun a w hS hA => wp_mono (h a w hS hA) fun _ _ _ => Post.mono hq

theorem Wp.weaken {c : Code} {E' : Env} {S' : Ents} (hE : Env.Sub E' E) (hS : ∀ w, Sim B S w → Sim B S' w) (h : Wp P B n c Q E' S') : Wp P B n c Q E S :=
  fun a w hs hA => h a w (hS w hs) (hA.sub hE)

theorem Wp.skip (h : Q .normal E S) : Wp P B n .skip Q E S :=
  fun _ w hS hA => wp_skip ⟨trivial, E, S, Below.refl B w, hS, hA, h⟩

theorem Wp.ret (h : Q .ret E S) : Wp P B n .ret Q E S :=
  fun _ w hS hA => wp_ret ⟨trivial, E, S, Below.refl B w, hS, hA, h⟩

theorem Wp.exit {id : Nat} (h : Q (.exit id) E S) : Wp P B n (.exit id) Q E S :=
  fun _ w hS hA => wp_exit ⟨trivial, E, S, Below.refl B w, hS, hA, h⟩

def thenQ (K : Env → Ents → Prop) (Q : Exit → Env → Ents → Prop) : Exit → Env → Ents → Prop
  | .normal, E, S => K E S
  | e, E, S => Q e E S

theorem Wp.seq {x y : Code} (h : Wp P B n x (thenQ (Wp P B n y Q) Q) E S) : Wp P B n (.seq x y) Q E S := by
  intro a w hS hA
  refine wp_seq (wp_mono (h a w hS hA) ?_)
  intro e a' w' hp
  obtain ⟨hp, E', S', hb, hs, ha, q⟩ := hp
  cases e with
  | normal =>
    exact wp_mono (q a' w' hs ha) fun _ _ _ => Post.later hb
  | exit id => exact ⟨hp, E', S', hb, hs, ha, q⟩
  | goto l => exact ⟨hp, E', S', hb, hs, ha, q⟩
  | ret => exact ⟨hp, E', S', hb, hs, ha, q⟩
  | panic ch => exact ⟨hp, E', S', hb, hs, ha, q⟩
  | outgrown => exact ⟨hp, E', S', hb, hs, ha, q⟩

theorem Wp.cond {c : Operand} {x y : Code} {t : Bool} (hc : (match c with | .tmp d => Env.get E d | .const v => some v | _ => none) = some (.bool t))
    (h1 : t = true → Wp P B n x Q E S) (h2 : t = false → Wp P B n y Q E S) : Wp P B n (.cond c x y) Q E S := by
  intro a w hS hA
  have he : a.eval c = .bool t := by
    cases c with
    | tmp d => have := hA.reads d _ hc; simp [Act.eval, Array.getD_eq_getD_getElem?, this]
    | const v => simpa [Act.eval] using hc
    | global g => simp at hc
    | func f => simp at hc
  refine wp_cond he ?_
  cases t with
  | true => exact h1 rfl a w hS hA
  | false => exact h2 rfl a w hS hA

def blockQ (id : Nat) (Q : Exit → Env → Ents → Prop) : Exit → Env → Ents → Prop
  | .exit k, E, S => if k = id then Q .normal E S else Q (.exit k) E S
  | e, E, S => Q e E S

theorem Wp.block {id : Nat} {c : Code} (h : Wp P B n c (blockQ id Q) E S) : Wp P B n (.block id c) Q E S := by
  intro a w hS hA
  refine wp_block (wp_mono (h a w hS hA) ?_)
  intro e a' w' hp
  obtain ⟨hp, E', S', hb, hs, ha, q⟩ := hp
  cases e with
  | exit k =>
    simp only [blockQ] at q
    simp only [Exit.inBlock]
    split
    · rename_i e; rw [if_pos e] at q; exact ⟨trivial, E', S', hb, hs, ha, q⟩
    · rename_i e; rw [if_neg e] at q; exact ⟨trivial, E', S', hb, hs, ha, q⟩
  | normal => exact ⟨hp, E', S', hb, hs, ha, q⟩
  | goto l => exact ⟨hp, E', S', hb, hs, ha, q⟩
  | ret => exact ⟨hp, E', S', hb, hs, ha, q⟩
  | panic ch => exact ⟨hp, E', S', hb, hs, ha, q⟩
  | outgrown => exact ⟨hp, E', S', hb, hs, ha, q⟩

/-- A loop, by an invariant over whatever kind of states, and a measure. -/
theorem Wp.loop {c : Code} (I : Nat → Env → Ents → Prop) (m : Nat) (h0 : I m E S)
    (round : ∀ m E S, I m E S → Wp P B n c (thenQ (fun E' S' => ∃ m', m' < m ∧ I m' E' S') Q) E S) : Wp P B n (.loop c) Q E S := by
  intro a w hS hA
  let J : Nat → Act → World → Prop := fun m a' w' => ∃ E' S', Below B w w' ∧ Sim B S' w' ∧ Agree E' n a' ∧ I m E' S'
  intro b k cs
  have key : ∀ m, ∀ a' w', J m a' w' → ∃ e a2 w2, Post B n Q w e a2 w2 ∧ Arrives P (lone (b.at a' (.code c :: .inLoop c :: k)) cs w') b k cs e a2 w2 := by
    intro m
    induction m using Nat.strongRecOn with
    | _ m ih =>
      intro a' w' hJ
      obtain ⟨E', S', hb, hs, ha, hI⟩ := hJ
      obtain ⟨e, a1, w1, ⟨hp1, E1, S1, hb1, hs1, ha1, q⟩, harr⟩ := round m E' S' hI a' w' hs ha b (.inLoop c :: k) cs
      cases e with
      | normal =>
        obtain ⟨m', hlt, hI'⟩ := q
        obtain ⟨e2, a2, w2, hq2, harr2⟩ := ih m' hlt a1 w1 ⟨E1, S1, hb.trans hb1, hs1, ha1, hI'⟩
        exact ⟨e2, a2, w2, hq2, .of_steps (Steps.trans harr (.one step_inLoop)) harr2⟩
      | exit id => exact ⟨_, a1, w1, ⟨hp1, E1, S1, hb.trans hb1, hs1, ha1, q⟩, .pass (x := .inLoop c) rfl (fun _ _ => .inl (by simp)) harr⟩
      | goto l => exact ⟨_, a1, w1, ⟨hp1, E1, S1, hb.trans hb1, hs1, ha1, q⟩, .pass (x := .inLoop c) rfl (fun _ _ => .inl (by simp)) harr⟩
      | ret => exact ⟨_, a1, w1, ⟨hp1, E1, S1, hb.trans hb1, hs1, ha1, q⟩, .pass (x := .inLoop c) rfl (fun _ _ => .inl (by simp)) harr⟩
      | panic ch => exact ⟨_, a1, w1, ⟨hp1, E1, S1, hb.trans hb1, hs1, ha1, q⟩, .pass (x := .inLoop c) rfl (fun _ _ => .inl (by simp)) harr⟩
      | outgrown => exact ⟨_, a1, w1, ⟨hp1, E1, S1, hb.trans hb1, hs1, ha1, q⟩, .pass (x := .inLoop c) rfl (fun _ _ => .inl (by simp)) harr⟩
  obtain ⟨e, a', w', hq, harr⟩ := key m a w ⟨E, S, Below.refl B w, hS, hA, h0⟩
  exact ⟨e, a', w', hq, .of_steps (.one step_loop) harr⟩
end
end Go.Lg
