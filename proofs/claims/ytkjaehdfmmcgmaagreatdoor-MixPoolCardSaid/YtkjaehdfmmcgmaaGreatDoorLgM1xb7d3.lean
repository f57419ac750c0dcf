/- A layer over the weakest preconditions of the model: what is known of memory and of the slots, told by rules. -/
import Derived.WalkKit
import Derived.Below
import Derived.OrdersHeld
import Derived.WalkSpells
import Derived.Laws.CopyRow
import Derived.Laws.AppendOwn
import Derived.Laws.MakeOwn
import Derived.Laws.OwnMore
namespace Go.Lg
open Go.RowKit (Below)

/-- What is known of memory: blocks and what they hold. -/
abbrev Ents := List (Nat × Obj)

/-- The world holds what S tells; what stands from B on stands in S once. -/
structure Sim (B : Nat) (S : Ents) (w : World) : Prop where
  holds : ∀ x ∈ S, w.heap[x.1]? = some x.2
  own : S.Pairwise fun x y => x.1 = y.1 → x.1 < B
  base : B ≤ w.heap.size

/-- What is known of a frame's slots: the newest first. -/
abbrev Env := List (Nat × Value)

def Env.get : Env → Nat → Option Value
  | [], _ => none
  | (m, v) :: E, n => match Nat.beq m n with
    | true => some v
    | false => Env.get E n

structure Agree (E : Env) (n : Nat) (a : Act) : Prop where
  reads : ∀ d v, Env.get E d = some v → a.tmps[d]? = some v
  size : a.tmps.size = n
  defers : a.defers = []

theorem Env.get_cons (m : Nat) (v : Value) (E : Env) (n : Nat) : Env.get ((m, v) :: E) n = if m = n then some v else Env.get E n := by
  simp only [Env.get]
  cases h : Nat.beq m n with
  | true => simp [Nat.eq_of_beq_eq_true h]
  | false =>
    have : m ≠ n := fun e => by subst e; simp at h
    simp [this]

theorem Agree.put {E : Env} {n : Nat} {a : Act} (h : Agree E n a) (d : Nat) (v : Value) (hd : d < n) : Agree ((d, v) :: E) n (a.put (some d) v) := by
  refine ⟨fun k u hk => ?_, by simp [Act.put, h.size], by simp [Act.put, h.defers]⟩
  rw [Env.get_cons] at hk
  simp only [Act.put, Array.getElem?_setIfInBounds, h.size]
  split at hk
  · rename_i e; subst e; simp [hd]; exact Option.some.inj hk
  · rename_i e; simp [e, h.reads k u hk]

def Env.Sub (E' E : Env) : Prop := ∀ d v, Env.get E' d = some v → Env.get E d = some v

theorem Agree.sub {E E' : Env} {n : Nat} {a : Act} (h : Agree E n a) (hs : Env.Sub E' E) : Agree E' n a :=
  ⟨fun d v hd => h.reads d v (hs d v hd), h.size, h.defers⟩

theorem Env.Sub.nil (E : Env) : Env.Sub [] E := fun _ _ h => by simp [Env.get] at h
theorem Env.Sub.cons {E' E : Env} {d : Nat} {v : Value} (h : Env.get E d = some v) (hs : Env.Sub E' E) : Env.Sub ((d, v) :: E') E := by
  intro k u hk
  rw [Env.get_cons] at hk
  split at hk
  · rename_i e; subst e; rw [h]; exact hk
  · exact hs k u hk
theorem Env.Sub.refl (E : Env) : Env.Sub E E := fun _ _ h => h
theorem Env.Sub.trans {A B C : Env} (h : Env.Sub A B) (k : Env.Sub B C) : Env.Sub A C := fun d v e => k d v (h d v e)

/-- What a piece of code that began at world w leaves behind. -/
def Post (B n : Nat) (Q : Exit → Env → Ents → Prop) (w : World) : Exit → Act → World → Prop := fun e a w' =>
  (match e with | .panic _ => False | _ => True) ∧ ∃ E S, Below B w w' ∧ Sim B S w' ∧ Agree E n a ∧ Q e E S

def Wp (P : Program) (B n : Nat) (c : Code) (Q : Exit → Env → Ents → Prop) (E : Env) (S : Ents) : Prop :=
  ∀ a w, Sim B S w → Agree E n a → c.wp P (Post B n Q w) a w

/-- A call of function f comes back, with what Q says. -/
def CallWp (P : Program) (B : Nat) (f : FuncId) (args : Array Value) (Q : Value → Ents → Prop) (S : Ents) : Prop :=
  ∀ w, Sim B S w → Calls P f args w fun e w' => ∃ v S', e = .returned v ∧ Below B w w' ∧ Sim B S' w' ∧ Q v S'

theorem CallWp.mono {P : Program} {B : Nat} {f : FuncId} {args : Array Value} {Q Q' : Value → Ents → Prop} {S : Ents}
    (h : CallWp P B f args Q S) (hq : ∀ v S', Q v S' → Q' v S') : CallWp P B f args Q' S :=
  fun w hS => (h w hS).mono fun _ _ ⟨v, S', e, hb, hs, q⟩ => ⟨v, S', e, hb, hs, hq v S' q⟩

section
variable {P : Program} {B n : Nat} {Q : Exit → Env → Ents → Prop} {E : Env} {S : Ents}

theorem Post.mono {Q' : Exit → Env → Ents → Prop} {w : World} (hq : ∀ e E S, Q e E S → Q' e E S) {e : Exit} {a : Act} {w' : World}
    (h : Post B n Q w e a w') : Post B n Q' w e a w' := by
  obtain ⟨hp, E, S, hb, hs, ha, q⟩ := h
  exact ⟨hp, E, S, hb, hs, ha, hq _ _ _ q⟩

theorem Post.later {w w' : World} (hb : Below B w w') {e : Exit} {a : Act} {w'' : World} (h : Post B n Q w' e a w'') : Post B n Q w e a w'' := by
  obtain ⟨hp, E, S, hb', hs, ha, q⟩ := h
  exact ⟨hp, E, S, hb.trans hb', hs, ha, q⟩

theorem Wp.mono {c : Code} {Q' : Exit → Env → Ents → Prop} (h : Wp P B n c Q E S) (hq : ∀ e E S, Q e E S → Q' e E S) : Wp P B n c Q' E S :=
  fun a w hS hA => wp_mono (h a w hS hA) fun _ _ _ => Post.mono hq

theorem Wp.weaken {c : Code} {E' : Env} {S' : Ents} (hE : Env.Sub E' E) (hS : ∀ w, Sim B S w → Sim B S' w) (h : Wp P B n c Q E' S') : Wp P B n c Q E S :=
  fun a w hs hA => h a w (hS w hs) (hA.sub hE)

theorem Wp.skip (h : Q .normal E S) : Wp P B n .skip Q E S :=
  fun _ w hS hA => wp_skip ⟨trivial, E, S, Below.refl B w, hS, hA, h⟩

theorem Wp.ret (h : Q .ret E S) : Wp P B n .ret Q E S :=
  fun _ w hS hA => wp_ret ⟨trivial, E, S, Below.refl B w, hS, hA, h⟩

theorem Wp.exit {id : Nat} (h : Q (.exit id) E S) : Wp P B n (.exit id) Q E S :=
  fun _ w hS hA => wp_exit ⟨trivial, E, S, Below.refl B w, hS, hA, h⟩

def thenQ (K : Env → Ents → Prop) (Q : Exit → Env → Ents → Prop) : Exit → Env → Ents → Prop
  | .normal, E, S => K E S
  | e, E, S => Q e E S

theorem Wp.seq {x y : Code} (h : Wp P B n x (thenQ (Wp P B n y Q) Q) E S) : Wp P B n (.seq x y) Q E S := by
  intro a w hS hA
  refine wp_seq (wp_mono (h a w hS hA) ?_)
  intro e a' w' hp
  obtain ⟨hp, E', S', hb, hs, ha, q⟩ := hp
  cases e with
  | normal =>
    exact wp_mono (q a' w' hs ha) fun _ _ _ => Post.later hb
  | exit id => exact ⟨hp, E', S', hb, hs, ha, q⟩
  | goto l => exact ⟨hp, E', S', hb, hs, ha, q⟩
  | ret => exact ⟨hp, E', S', hb, hs, ha, q⟩
  | panic ch => exact ⟨hp, E', S', hb, hs, ha, q⟩
  | outgrown => exact ⟨hp, E', S', hb, hs, ha, q⟩

theorem Wp.cond {c : Operand} {x y : Code} {t : Bool} (hc : (match c with | .tmp d => Env.get E d | .const v => some v | _ => none) = some (.bool t))
    (h1 : t = true → Wp P B n x Q E S) (h2 : t = false → Wp P B n y Q E S) : Wp P B n (.cond c x y) Q E S := by
  intro a w hS hA
  have he : a.eval c = .bool t := by
    cases c with
    | tmp d => have := hA.reads d _ hc; simp [Act.eval, Array.getD_eq_getD_getElem?, this]
    | const v => simpa [Act.eval] using hc
    | global g => simp at hc
    | func f => simp at hc
  refine wp_cond he ?_
  cases t with
  | true => exact h1 rfl a w hS hA
  | false => exact h2 rfl a w hS hA

def blockQ (id : Nat) (Q : Exit → Env → Ents → Prop) : Exit → Env → Ents → Prop
  | .exit k, E, S => if k = id then Q .normal E S else Q (.exit k) E S
  | e, E, S => Q e E S

theorem Wp.block {id : Nat} {c : Code} (h : Wp P B n c (blockQ id Q) E S) : Wp P B n (.block id c) Q E S := by
  intro a w hS hA
  refine wp_block (wp_mono (h a w hS hA) ?_)
  intro e a' w' hp
  obtain ⟨hp, E', S', hb, hs, ha, q⟩ := hp
  cases e with
  | exit k =>
    simp only [blockQ] at q
    simp only [Exit.inBlock]
    split
    · rename_i e; rw [if_pos e] at q; exact ⟨trivial, E', S', hb, hs, ha, q⟩
    · rename_i e; rw [if_neg e] at q; exact ⟨trivial, E', S', hb, hs, ha, q⟩
  | normal => exact ⟨hp, E', S', hb, hs, ha, q⟩
  | goto l => exact ⟨hp, E', S', hb, hs, ha, q⟩
  | ret => exact ⟨hp, E', S', hb, hs, ha, q⟩
  | panic ch => exact ⟨hp, E', S', hb, hs, ha, q⟩
  | outgrown => exact ⟨hp, E', S', hb, hs, ha, q⟩

/-- A loop, by an invariant over whatever kind of states, and a measure. -/
theorem Wp.loop {c : Code} (I : Nat → Env → Ents → Prop) (m : Nat) (h0 : I m E S)
    (round : ∀ m E S, I m E S → Wp P B n c (thenQ (fun E' S' => ∃ m', m' < m ∧ I m' E' S') Q) E S) : Wp P B n (.loop c) Q E S := by
  intro a w hS hA
  let J : Nat → Act → World → Prop := fun m a' w' => ∃ E' S', Below B w w' ∧ Sim B S' w' ∧ Agree E' n a' ∧ I m E' S'
  intro b k cs
  have key : ∀ m, ∀ a' w', J m a' w' → ∃ e a2 w2, Post B n Q w e a2 w2 ∧ Arrives P (lone (b.at a' (.code c :: .inLoop c :: k)) cs w') b k cs e a2 w2 := by
    intro m
    induction m using Nat.strongRecOn with
    | _ m ih =>
      intro a' w' hJ
      obtain ⟨E', S', hb, hs, ha, hI⟩ := hJ
      obtain ⟨e, a1, w1, ⟨hp1, E1, S1, hb1, hs1, ha1, q⟩, harr⟩ := round m E' S' hI a' w' hs ha b (.inLoop c :: k) cs
      cases e with
      | normal =>
        obtain ⟨m', hlt, hI'⟩ := q
        obtain ⟨e2, a2, w2, hq2, harr2⟩ := ih m' hlt a1 w1 ⟨E1, S1, hb.trans hb1, hs1, ha1, hI'⟩
        exact ⟨e2, a2, w2, hq2, .of_steps (Steps.trans harr (.one step_inLoop)) harr2⟩
      | exit id => exact ⟨_, a1, w1, ⟨hp1, E1, S1, hb.trans hb1, hs1, ha1, q⟩, .pass (x := .inLoop c) rfl (fun _ _ => .inl (by simp)) harr⟩
      | goto l => exact ⟨_, a1, w1, ⟨hp1, E1, S1, hb.trans hb1, hs1, ha1, q⟩, .pass (x := .inLoop c) rfl (fun _ _ => .inl (by simp)) harr⟩
      | ret => exact ⟨_, a1, w1, ⟨hp1, E1, S1, hb.trans hb1, hs1, ha1, q⟩, .pass (x := .inLoop c) rfl (fun _ _ => .inl (by simp)) harr⟩
      | panic ch => exact ⟨_, a1, w1, ⟨hp1, E1, S1, hb.trans hb1, hs1, ha1, q⟩, .pass (x := .inLoop c) rfl (fun _ _ => .inl (by simp)) harr⟩
      | outgrown => exact ⟨_, a1, w1, ⟨hp1, E1, S1, hb.trans hb1, hs1, ha1, q⟩, .pass (x := .inLoop c) rfl (fun _ _ => .inl (by simp)) harr⟩
  obtain ⟨e, a', w', hq, harr⟩ := key m a w ⟨E, S, Below.refl B w, hS, hA, h0⟩
  exact ⟨e, a', w', hq, .of_steps (.one step_loop) harr⟩
end
end Go.Lg

namespace Go.Lg
open Go.RowKit (Below)

def opd (E : Env) : Operand → Option Value
  | .tmp t => E.get t
  | .const v => some v
  | .global g => some (.pointer (some ⟨g, 0, none⟩))
  | .func f => some (.func (.func f) #[] #[])

theorem opd_sound {E : Env} {n : Nat} {a : Act} (hA : Agree E n a) {x : Operand} {v : Value} (h : opd E x = some v) : a.eval x = v := by
  cases x with
  | tmp t => have := hA.reads t v h; simp [Act.eval, this]
  | const v => simpa [opd, Act.eval] using h
  | global g => simpa [opd, Act.eval] using h
  | func f => simpa [opd, Act.eval] using h

/-- A list whose spine is laid open before it is handed on. -/
def spine {α β : Type} : List α → (List α → β) → β
  | [], k => k []
  | x :: xs, k => spine xs fun ys => k (x :: ys)
theorem spine_eq {α β : Type} (l : List α) : ∀ k : List α → β, spine l k = k l := by
  induction l with
  | nil => intro k; rfl
  | cons x xs ih => intro k; simp [spine, ih]

def opds (E : Env) : List Operand → Option (List Value)
  | [] => some []
  | x :: xs => match opd E x, opds E xs with
    | some v, some vs => some (v :: vs)
    | _, _ => none

theorem opds_sound {E : Env} {n : Nat} {a : Act} (hA : Agree E n a) : ∀ {xs : List Operand} {vs : List Value}, opds E xs = some vs → xs.map a.eval = vs := by
  intro xs
  induction xs with
  | nil => intro vs h; simp [opds] at h; simp [h]
  | cons x xs ih =>
    intro vs h
    simp only [opds] at h
    split at h
    · rename_i v us h1 h2
      obtain rfl := Option.some.inj h
      simp [opd_sound hA h1, ih h2]
    · cases h

/-- Whole numbers: what an operator gives that cannot panic. -/
def binInt (op : BinOp) (k : IntKind) (x y : Int) : Option Value :=
  match op with
  | .add => some (.int k (k.wrap (x + y)))
  | .sub => some (.int k (k.wrap (x - y)))
  | .mul => some (.int k (k.wrap (x * y)))
  | .eql => some (.bool (decide (x = y)))
  | .neq => some (.bool (!decide (x = y)))
  | .lss => some (.bool (decide (x < y)))
  | .leq => some (.bool (decide (x ≤ y)))
  | .gtr => some (.bool (decide (y < x)))
  | .geq => some (.bool (decide (y ≤ x)))
  | .and => some (.int k (bits .and k x y))
  | .or => some (.int k (bits .or k x y))
  | .xor => some (.int k (bits .xor k x y))
  | .andNot => some (.int k (bits .andNot k x y))
  | _ => none

def bin (P : Program) (op : BinOp) (t : TypeId) : Value → Value → Option Value
  | .int k x, .int k' y => match op with
    | .shl => match y with
      | .ofNat n => some (.int k (k.wrap (x * 2 ^ (min n k.bits))))
      | .negSucc _ => none
    | .shr => match y with
      | .ofNat n => some (.int k (x.fdiv (2 ^ (min n k.bits))))
      | .negSucc _ => none
    | .quo => match decide (k = k'), y with
      | true, .ofNat (m + 1) => some (.int k (k.wrap (x.tdiv (.ofNat (m + 1)))))
      | _, _ => none
    | .rem => match decide (k = k'), y with
      | true, .ofNat (m + 1) => some (.int k (x.tmod (.ofNat (m + 1))))
      | _, _ => none
    | op => match decide (k = k') with
      | true => binInt op k x y
      | false => none
  | .string ⟨⟨x⟩⟩, .string ⟨⟨y⟩⟩ => match op with
    | .eql => some (.bool (decide (x = y)))
    | .neq => some (.bool (!decide (x = y)))
    | _ => none
  | .bool x, .bool y => match op, P.underlying t with
    | .eql, some .bool => some (.bool (x == y))
    | .neq, some .bool => some (.bool (!(x == y)))
    | _, _ => none
  | .pointer a, .pointer none => match op, P.underlying t with
    | .eql, some (.pointer _) => some (.bool a.isNone)
    | .neq, some (.pointer _) => some (.bool (!a.isNone))
    | _, _ => none
  | .slice a _ _, .slice none _ _ => match op, P.underlying t with
    | .eql, some (.slice _) => some (.bool a.isNone)
    | .neq, some (.slice _) => some (.bool (!a.isNone))
    | _, _ => none
  | _, _ => none

theorem toList_beq (x y : List UInt8) : ((ByteArray.mk ⟨x⟩).toList == (ByteArray.mk ⟨y⟩).toList) = decide (x = y) := by
  rw [Bool.eq_iff_iff]
  simp [ByteArray.toList_eq]

theorem bin_sound {P : Program} {op : BinOp} {t : TypeId} {u v r : Value} (x y : Operand) (h : bin P op t u v = some r) (w : World) :
    ((do eqGuard op t x y u v; binOp op t u v : Sem Value)).run P w = .ok r w := by
  unfold bin at h
  split at h
  · rename_i k a k' b
    rw [eqGuard_at_int]
    simp only [pure_bind]
    split at h
    · split at h
      · obtain rfl := Option.some.inj h
        rename_i m
        simp only [binOp, Op.shift]
        rw [if_neg (by simp)]
        simp
      · cases h
    · split at h
      · obtain rfl := Option.some.inj h
        rename_i m
        simp only [binOp, Op.shift]
        rw [if_neg (by simp)]
        simp
      · cases h
    · split at h
      · rename_i m hk
        obtain rfl := Option.some.inj h
        have hk' : k = k' := by simpa using hk
        subst hk'
        have : ¬ ((Int.ofNat (m + 1)) = 0) := by simp only [Int.ofNat_eq_natCast]; omega
        simp only [binOp_quo, Op.intDiv, if_neg this, Sem.run_pure]
      · cases h
    · split at h
      · rename_i m hk
        obtain rfl := Option.some.inj h
        have hk' : k = k' := by simpa using hk
        subst hk'
        have : ¬ ((Int.ofNat (m + 1)) = 0) := by simp only [Int.ofNat_eq_natCast]; omega
        simp only [binOp_rem, Op.intDiv, if_neg this, Sem.run_pure]
      · cases h
    · split at h
      · rename_i hk
        have hk' : k = k' := by simpa using hk
        subst hk'
        cases op <;> simp only [binInt, reduceCtorEq, Option.some.injEq] at h <;> first | contradiction | (subst h; simp [binOp, Op.intArith, Op.intCmp, intBits_and, intBits_or, intBits_xor, intBits_andNot]; try rfl)
      · cases h
  · rw [eqGuard_at_string]
    simp only [pure_bind]
    split at h <;> first | (simp only [reduceCtorEq] at h; done) | obtain rfl := Option.some.inj h
    · show (Op.stringOp .eql _ _).run P w = _
      simp only [Op.stringOp, Sem.run_pure, toList_beq]
    · show (Op.stringOp .neq _ _).run P w = _
      simp only [Op.stringOp, Sem.run_pure, toList_beq]
  · rw [eqGuard_at_bool]
    simp only [pure_bind]
    split at h <;> first | (simp only [reduceCtorEq] at h; done) | (rename_i hu; obtain rfl := Option.some.inj h)
    · exact run_eql_bool w t _ _ hu
    · exact run_neq_bool w t _ _ hu
  · rename_i a
    rw [eqGuard_at_pointer]
    simp only [pure_bind]
    split at h <;> first | (simp only [reduceCtorEq] at h; done) | (rename_i hu; obtain rfl := Option.some.inj h)
    · exact run_eql_pointer_nil w t _ (by simp [Program.pointee, hu])
    · exact run_neq_pointer_nil w t _ (by simp [Program.pointee, hu])
  · rename_i a _ _ _ _
    rw [eqGuard_at_slice]
    simp only [pure_bind]
    split at h <;> first | (simp only [reduceCtorEq] at h; done) | (rename_i hu; obtain rfl := Option.some.inj h)
    · exact Lib.run_eql_slice_nil w t _ a _ _ _ _ hu
    · exact run_neq_slice_nil_any w t _ a _ _ _ _ hu
  · cases h

/-- Cells of a value, one written over from place off on. -/
def setAt : List Value → Nat → List Value → Option (List Value)
  | cs, _, [] => some cs
  | _ :: cs, 0, v :: vs => match setAt cs 0 vs with
    | some r => some (v :: r)
    | none => none
  | c :: cs, n + 1, vs => match setAt cs n vs with
    | some r => some (c :: r)
    | none => none
  | [], _, _ :: _ => none

def cellsOf : Value → List Value
  | .agg cs => cs.toList
  | v => [v]

def fieldsOf (P : Program) (s : TypeId) (f : Nat) : Option (TypeId × Nat) :=
  match P.underlying s with
  | some (.struct fs) => match fs[f]? with
    | some fd => some (fd.type, fd.offset)
    | none => none
  | _ => none

def sizeOfT (P : Program) (t : TypeId) : Option Nat :=
  match P.info? t with
  | some i => some i.size
  | none => none

def isAggT (P : Program) (t : TypeId) : Option Bool :=
  match P.underlying t with
  | some (.struct _) => some true
  | some (.array _ _) => some true
  | some _ => some false
  | none => none

/-- Cells from place off on, as many as the type has, read as a value of the type. -/
def takeN : Nat → List Value → Option (List Value)
  | 0, _ => some []
  | n + 1, x :: xs => match takeN n xs with
    | some r => some (x :: r)
    | none => none
  | _ + 1, [] => none

def partAt (P : Program) (t : TypeId) (cs : List Value) (off : Nat) : Option Value :=
  match isAggT P t, sizeOfT P t with
  | some true, some n => match takeN n (cs.drop off) with
    | some l => some (.agg l.toArray)
    | none => none
  | some false, some _ => cs[off]?
  | _, _ => none

def ev (P : Program) (E : Env) : Op → Option Value
  | .move x => opd E x
  | .assign x => opd E x
  | .pick c x y => match opd E c with
    | some (.bool true) => opd E x
    | some (.bool false) => opd E y
    | _ => none
  | .binOp op t x y _ => match opd E x, opd E y with
    | some u, some v => bin P op t u v
    | _, _ => none
  | .unOp op _ x => match op, opd E x with
    | .not, some (.bool b) => some (.bool !b)
    | .neg, some (.int k n) => some (.int k (k.wrap (0 - n)))
    | .xor, some (.int k n) => some (.int k (bits .xor k (if k.signed then -1 else k.max) n))
    | _, _ => none
  | .convert s d x => match P.underlying s, P.underlying d, opd E x with
    | some _, some (.int k), some (.int _ n) => some (.int k (k.wrap n))
    | some _, some .string, some (.string b) => some (.string b)
    | _, _, _ => none
  | .nilCheck x => match opd E x with
    | some (.pointer (some a)) => some (.pointer (some a))
    | _ => none
  | .fieldAddr s x f => match fieldsOf P s f, opd E x with
    | some (t, off), some (.pointer (some ⟨b, o, none⟩)) => match sizeOfT P t with
      | some (_ + 1) => some (.pointer (some ⟨b, o + off, none⟩))
      | _ => none
    | _, _ => none
  | .field s x f => match fieldsOf P s f, opd E x with
    | some (t, off), some (.agg cs) => partAt P t cs.toList off
    | _, _ => none
  | .extract x i => match opd E x with
    | some (.tuple vs) => vs.toList[i]?
    | _ => none
  | .makeFunc fn first captured => match opds E first.toList, opds E captured.toList with
    | some l, some m => spine l fun l => spine m fun m => some (.func fn l.toArray m.toArray)
    | _, _ => none
  | .call ⟨.builtin .len, args, tys⟩ => match args.toList, tys.toList with
    | [x], [t] => match P.underlying t, opd E x with
      | some .string, some (.string ⟨⟨l⟩⟩) => some (.int .i64 l.length)
      | some (.slice _), some (.slice _ n _) => some (.int .i64 n)
      | some (.array n _), some _ => some (.int .i64 n)
      | _, _ => none
    | _, _ => none
  | .call ⟨.builtin .min, args, _⟩ => match args.toList with
    | [x, y] => match opd E x, opd E y with
      | some (.int k m), some (.int _ n) => some (.int k (if n < m then n else m))
      | _, _ => none
    | _ => none
  | .call ⟨.builtin .max, args, _⟩ => match args.toList with
    | [x, y] => match opd E x, opd E y with
      | some (.int k m), some (.int _ n) => some (.int k (if n > m then n else m))
      | _, _ => none
    | _ => none
  | _ => none

theorem takeN_eq : ∀ (n : Nat) (l r : List Value), takeN n l = some r → r = l.take n ∧ n ≤ l.length
  | 0, _, _, h => by simp [takeN] at h; simp [h]
  | n + 1, [], _, h => by simp [takeN] at h
  | n + 1, x :: xs, r, h => by
    simp only [takeN] at h
    split at h
    · rename_i r' hr
      obtain ⟨rfl, hl⟩ := takeN_eq n xs r' hr
      obtain rfl := Option.some.inj h
      simp; omega
    · cases h

theorem sizeOfT_run {P : Program} {t : TypeId} {n : Nat} (h : sizeOfT P t = some n) (w : World) : (sizeOf t).run P w = .ok n w := by
  unfold sizeOfT at h
  split at h
  · rename_i i hi; simp at h; simp [sizeOf, typeInfo, hi, h]
  · cases h

theorem isAggT_run {P : Program} {t : TypeId} {b : Bool} (h : isAggT P t = some b) (w : World) : (isAgg t).run P w = .ok b w := by
  unfold isAggT at h
  split at h
  · rename_i hu; simp at h; simp [isAgg, run_underlying hu, ← h]
  · rename_i hu; simp at h; simp [isAgg, run_underlying hu, ← h]
  · rename_i d h1 h2 hu
    simp at h; subst h
    simp only [isAgg, Sem.run_bind, run_underlying hu, Result.andThen_ok]
    rfl
  · cases h

theorem partAt_run {P : Program} {t : TypeId} {cs : Array Value} {off : Nat} {v : Value} (h : partAt P t cs.toList off = some v) (w : World) :
    (part t cs off).run P w = .ok v w := by
  unfold partAt at h
  split at h
  · rename_i n ha hs
    split at h
    · rename_i l hl
      obtain ⟨rfl, hlen⟩ := takeN_eq _ _ _ hl
      obtain rfl := Option.some.inj h
      simp only [part, Sem.run_bind, isAggT_run ha, Result.andThen_ok, if_true, sizeOfT_run hs, Sem.run_pure]
      congr 2
      apply Array.ext'
      simp [List.extract_eq_take_drop]
    · cases h
  · rename_i n ha hs
    have h' : cs[off]? = some v := by simpa using h
    simp [part, isAggT_run ha, h']
  · cases h

theorem fieldsOf_run {P : Program} {s : TypeId} {f : Nat} {t : TypeId} {off : Nat} (h : fieldsOf P s f = some (t, off)) :
    ∃ fs fd, P.underlying s = some (.struct fs) ∧ fs[f]? = some fd ∧ fd.type = t ∧ fd.offset = off := by
  unfold fieldsOf at h
  split at h
  · rename_i fs hu
    split at h
    · rename_i fd hf
      simp at h
      exact ⟨fs, fd, hu, hf, h.1, h.2⟩
    · cases h
  · cases h

theorem ev_sound {P : Program} {E : Env} {n : Nat} {a : Act} (hA : Agree E n a) {o : Oper} {v : Value} (h : ev P E o.op = some v) (w : World) :
    (execOp a.eval o).run P w = .ok (.value v) w := by
  obtain ⟨dst, op, ty, pos, after, guard⟩ := o
  simp only at h
  unfold ev at h
  split at h
  · simp [execOp, opd_sound hA h]
  · simp [execOp, opd_sound hA h]
  · split at h
    · rename_i hc; simp [execOp, opd_sound hA hc, opd_sound hA h, asBool]
    · rename_i hc; simp [execOp, opd_sound hA hc, opd_sound hA h, asBool]
    · cases h
  · -- binOp
    rename_i op t x y yt
    split at h
    · rename_i u v' hu hv
      have := bin_sound (P := P) x y h w
      simp only [execOp, opd_sound hA hu, opd_sound hA hv]
      rw [Sem.run_bind, this]
      rfl
    · cases h
  · -- unOp
    split at h
    · rename_i hx; obtain rfl := Option.some.inj h; simp [execOp, opd_sound hA hx, Op.unary]
    · rename_i hx; obtain rfl := Option.some.inj h; simp [execOp, opd_sound hA hx, Op.unary, Op.intArith]
    · rename_i hx; obtain rfl := Option.some.inj h; simp [execOp, opd_sound hA hx, Op.unary, intBits_xor]
    · cases h
  · -- convert
    split at h
    · rename_i hs hd hx; obtain rfl := Option.some.inj h
      simp [execOp, opd_sound hA hx, convert, run_underlying hs, run_underlying hd, Conv.intToInt]
    · rename_i hs hd hx; obtain rfl := Option.some.inj h
      simp [execOp, opd_sound hA hx, convert, run_underlying hs, run_underlying hd]
    · cases h
  · -- nilCheck
    split at h
    · rename_i hx; obtain rfl := Option.some.inj h; simp [execOp, opd_sound hA hx]
    · cases h
  · -- fieldAddr
    split at h
    · rename_i t off b o' hf hx
      obtain ⟨fs, fd, hu, hfd, rfl, rfl⟩ := fieldsOf_run hf
      split at h
      · rename_i k hs
        obtain rfl := Option.some.inj h
        simp [execOp, opd_sound hA hx, Instr.fieldAt, run_underlying hu, hfd, Instr.sureAddr, fieldPlace, sizeOfT_run hs, Addr.add_lit]
      · cases h
    · cases h
  · -- field
    split at h
    · rename_i t off cs hf hx
      obtain ⟨fs, fd, hu, hfd, rfl, rfl⟩ := fieldsOf_run hf
      simp [execOp, opd_sound hA hx, Instr.field, run_underlying hu, hfd, asAgg, partAt_run h]
    · cases h
  · -- extract
    split at h
    · rename_i vs hx
      have h' : vs[‹Nat›]? = some v := by simpa using h
      simp [execOp, opd_sound hA hx, Instr.extract, h']
    · cases h
  · -- makeFunc
    split at h
    · rename_i l m hl hm
      rw [spine_eq, spine_eq] at h
      obtain rfl := Option.some.inj h
      have e1 := opds_sound hA hl
      have e2 := opds_sound hA hm
      simp [execOp, Instr.makeFunc, ← e1, ← e2]
      constructor <;> (apply Array.ext'; simp)
    · cases h
  · -- len
    rename_i args tys
    split at h
    · rename_i x t ha ht
      have ha' : args = #[x] := Array.ext' (by simpa using ha)
      have ht' : tys = #[t] := Array.ext' (by simpa using ht)
      subst ha' ht'
      split at h
      · rename_i hu hx; obtain rfl := Option.some.inj h
        simp [execOp, resolve, opd_sound hA hx, invoke, builtin, Builtin.len_, run_underlying hu, goInt]
        rfl
      · rename_i hu hx; obtain rfl := Option.some.inj h
        simp [execOp, resolve, opd_sound hA hx, invoke, builtin, Builtin.len_, run_underlying hu, goInt]
      · rename_i hu hx; obtain rfl := Option.some.inj h
        simp [execOp, resolve, opd_sound hA hx, invoke, builtin, Builtin.len_, run_underlying hu, goInt]
      · cases h
    · cases h
  · -- min
    rename_i args tys
    split at h
    · rename_i x y ha
      have ha' : args = #[x, y] := Array.ext' (by simpa using ha)
      subst ha'
      split at h
      · rename_i hx hy; obtain rfl := Option.some.inj h
        simp [execOp, resolve, opd_sound hA hx, opd_sound hA hy, invoke, builtin, Builtin.min_, Builtin.min2]
      · cases h
    · cases h
  · -- max
    rename_i args tys
    split at h
    · rename_i x y ha
      have ha' : args = #[x, y] := Array.ext' (by simpa using ha)
      subst ha'
      split at h
      · rename_i hx hy; obtain rfl := Option.some.inj h
        simp [execOp, resolve, opd_sound hA hx, opd_sound hA hy, invoke, builtin, Builtin.max_, Builtin.max2]
      · cases h
    · cases h
  · cases h
end Go.Lg

namespace Go.Lg
open Go.RowKit (Below)

theorem Oper.upon_monoQ {P : Program} {o : Oper} {a : Act} {K K' : Act → World → Prop} {Q Q' : Exit → Act → World → Prop} (hk : ∀ a w, K a w → K' a w) (hq : ∀ e a w, Q e a w → Q' e a w)
    {r : Result Next} (hh : o.upon P a K Q r) : o.upon P a K' Q' r := by
  cases r with
  | ok n w' =>
    cases n <;> simp only [Oper.upon] at hh ⊢ <;>
      first
        | exact hk _ _ hh
        | exact Calls.mono hh (fun e w'' he => by
            cases e with
            | returned v => exact hk _ _ he
            | panicked c => exact hq _ _ _ he
            | outgrown => obtain ⟨x, y, z⟩ := he; exact ⟨x, y, hq _ _ _ z⟩)
        | exact Rows.mono hh (fun _ _ he => hk _ _ he)
  | halt x w' => cases x <;> simp only [Oper.upon] at hh ⊢ <;> first | exact hq _ _ _ hh | exact hh

theorem wpList_monoQ {P : Program} {ops : Array Oper} {Q Q' : Exit → Act → World → Prop} (hq : ∀ e a w, Q e a w → Q' e a w) :
    ∀ (l : List Oper) (a : Act) (w : World), wpList P ops Q l a w → wpList P ops Q' l a w := by
  intro l
  induction l with
  | nil => intro a w h; exact hq _ _ _ h
  | cons o l ih =>
    intro a w h
    unfold wpList at h ⊢
    split
    · rename_i hw
      rw [if_pos hw] at h
      rcases h with h | ⟨h1, x, y, h2⟩
      · exact .inl (Oper.upon_monoQ ih hq h)
      · exact .inr ⟨h1, x, y, hq _ _ _ h2⟩
    · rename_i hw
      rw [if_neg hw] at h
      exact ih _ _ h

/-- A list of operations. -/
def OWp (P : Program) (B n : Nat) (ops : Array Oper) (l : List Oper) (Q : Exit → Env → Ents → Prop) (E : Env) (S : Ents) : Prop :=
  ∀ a w, Sim B S w → Agree E n a → wpList P ops (Post B n Q w) l a w

def callable (P : Program) (f : FuncId) : Bool :=
  match P.funcs[f]? with
  | some fn => (match fn.body with | some _ => true | none => false) && !(fn.name == "runtime.NumGoroutine")
  | none => false

theorem callable_run {P : Program} {f : FuncId} (h : callable P f = true) (args : Array Value) (w : World) : (callFunc f args).run P w = .ok (.enter f args) w := by
  unfold callable at h
  split at h
  · rename_i fn hfn
    rw [Bool.and_eq_true] at h
    obtain ⟨h1, h2⟩ := h
    have h2' : (fn.name == "runtime.NumGoroutine") = false := by simpa using h2
    simp only [callFunc, Sem.run_bind, run_program, Result.andThen_ok, hfn, h2']
    cases hb : fn.body with
    | none => simp [hb] at h1
    | some c => simp
  · cases h

section
variable {P : Program} {B n : Nat} {ops : Array Oper} {Q : Exit → Env → Ents → Prop} {E : Env} {S : Ents} {o : Oper} {rest : List Oper}

theorem OWp.nil (h : Q .normal E S) : OWp P B n ops [] Q E S :=
  fun _ w hS hA => ⟨trivial, E, S, Below.refl B w, hS, hA, h⟩

theorem Wp.region {id : Nat} (h : OWp P B n ops ops.toList Q E S) : Wp P B n (.region id ops false) Q E S :=
  fun a w hS hA => wp_region_list (h a w hS hA)

/-- Does an operation's guard let it run? -/
def guardB (ops : List Oper) (E : Env) : Option (Nat × Bool) → Option Bool
  | none => some true
  | some (j, want) => match ops[j]? with
    | some o => match o.dst with
      | some d => match E.get d with
        | some (.bool true) => some want
        | some (.bool false) => some (!want)
        | some (.tuple _) => some false
        | _ => none
      | none => some false
    | none => some false

theorem guardB_sound {E : Env} {n : Nat} {a : Act} (hA : Agree E n a) {ops : Array Oper} {o : Oper} {b : Bool} (h : guardB ops.toList E o.guard = some b) :
    Region.wanted o (yielded ops a.tmps) = b := by
  unfold Region.wanted
  cases hg : o.guard with
  | none => rw [hg] at h; simp [guardB] at h; simp [← h]
  | some g =>
    obtain ⟨j, want⟩ := g
    rw [hg] at h
    simp only [guardB] at h
    simp only [yielded]
    cases hj : ops[j]? with
    | none => simp [hj] at h; simp [← h]
    | some o' =>
      have hj' : ops.toList[j]? = some o' := by simpa using hj
      simp only [hj'] at h
      simp only [Option.bind_some]
      cases hd : o'.dst with
      | none => simp [hd] at h; simp [← h]
      | some d =>
        simp only [hd] at h
        simp only [Option.bind_some]
        split at h
        · rename_i he; rw [hA.reads d _ he]; obtain rfl := Option.some.inj h; clear hg h; cases want <;> rfl
        · rename_i he; rw [hA.reads d _ he]; obtain rfl := Option.some.inj h; clear hg h; cases want <;> rfl
        · rename_i he; rw [hA.reads d _ he]; obtain rfl := Option.some.inj h; rfl
        · cases h

/-- What an operation leaves in its slot. -/
def putE (E : Env) (d : Option Tmp) (v : Value) : Env :=
  match d with
  | some k => (k, v) :: E
  | none => E
def dstOk (n : Nat) (d : Option Tmp) : Bool :=
  match d with
  | some k => Nat.blt k n
  | none => true

theorem Agree.putE {a : Act} (hA : Agree E n a) {d : Option Tmp} (hd : dstOk n d = true) (v : Value) : Agree (putE E d v) n (a.put d v) := by
  cases d with
  | none => exact hA
  | some k => exact hA.put k v (by simpa [dstOk, Nat.blt_eq] using hd)

theorem OWp.skip (hg : guardB ops.toList E o.guard = some false) (hd : dstOk n o.dst = true) (h : OWp P B n ops rest Q (putE E o.dst undef) S) :
    OWp P B n ops (o :: rest) Q E S := by
  intro a w hS hA
  refine wpList_skip (guardB_sound hA hg) ?_
  exact h _ w hS (hA.putE hd _)

/-- One operation: what it leaves in memory and slots. -/
def Step (P : Program) (B n : Nat) (o : Oper) (K : Env → Ents → Prop) (E : Env) (S : Ents) : Prop :=
  ∀ a w, Sim B S w → Agree E n a → o.wp P a w (fun a' w' => Below B w w' ∧ ∃ E' S', Sim B S' w' ∧ Agree E' n a' ∧ K E' S') (fun _ _ _ => False)

/-- One operation that gives a value and leaves memory, wherever memory has what F tells. -/
def Gives (P : Program) (n : Nat) (F : Ents) (E : Env) (o : Oper) (v : Value) : Prop :=
  ∀ a w, (∀ x ∈ F, w.heap[x.1]? = some x.2) → Agree E n a → (execOp a.eval o).run P w = .ok (.value v) w

theorem OWp.step (hg : guardB ops.toList E o.guard = some true) (h : Step P B n o (OWp P B n ops rest Q) E S) : OWp P B n ops (o :: rest) Q E S := by
  intro a w hS hA
  unfold wpList
  rw [if_pos (guardB_sound hA hg)]
  refine .inl (Oper.upon_monoQ ?_ ?_ (h a w hS hA))
  · rintro a' w' ⟨hb, E', S', hs, ha, q⟩
    exact wpList_monoQ (fun _ _ _ => Post.later hb) _ _ _ (q a' w' hs ha)
  · intro _ _ _ h; exact h.elim

theorem OWp.gives {F : Ents} {v : Value} (hg : guardB ops.toList E o.guard = some true) (hd : dstOk n o.dst = true) (hv : Gives P n F E o v) (hF : ∀ x ∈ F, x ∈ S)
    (h : OWp P B n ops rest Q (putE E o.dst v) S) : OWp P B n ops (o :: rest) Q E S := by
  refine OWp.step hg fun a w hS hA => ?_
  unfold Oper.wp
  rw [hv a w (fun x hx => hS.holds x (hF x hx)) hA]
  exact ⟨Below.refl B w, _, S, hS, hA.putE hd v, h⟩

theorem Gives.ev {v : Value} (hv : ev P E o.op = some v) : Gives P n [] E o v := fun _ w _ hA => ev_sound hA hv w

theorem OWp.pure {v : Value} (hg : guardB ops.toList E o.guard = some true) (hd : dstOk n o.dst = true) (hv : ev P E o.op = some v)
    (h : OWp P B n ops rest Q (putE E o.dst v) S) : OWp P B n ops (o :: rest) Q E S := by
  exact OWp.gives hg hd (Gives.ev hv) (by simp) h

/-- Operations that touch no memory, as far as they go. -/
def evs (P : Program) (n : Nat) (ops : List Oper) : Nat → List Oper → Env → Option (List Oper × Env)
  | 0, l, E => some (l, E)
  | k + 1, o :: l, E => match guardB ops E o.guard, dstOk n o.dst with
    | some true, true => match ev P E o.op with
      | some v => evs P n ops k l (putE E o.dst v)
      | none => none
    | some false, true => evs P n ops k l (putE E o.dst undef)
    | _, _ => none
  | _ + 1, [], _ => none

theorem OWp.evs (k : Nat) {l l' : List Oper} {E' : Env} (hv : evs P n ops.toList k l E = some (l', E')) (h : OWp P B n ops l' Q E' S) :
    OWp P B n ops l Q E S := by
  induction k generalizing l E with
  | zero => simp [Lg.evs] at hv; obtain ⟨rfl, rfl⟩ := hv; exact h
  | succ k ih =>
    cases l with
    | nil => simp [Lg.evs] at hv
    | cons o l =>
      simp only [Lg.evs] at hv
      split at hv
      · rename_i hg hd
        split at hv
        · rename_i v he; exact OWp.pure hg hd he (ih hv)
        · cases hv
      · rename_i hg hd; exact OWp.skip hg hd (ih hv)
      · cases hv

/-- A slot whose bool is a term: parted. -/
theorem OWp.part {l : List Oper} (d : Nat) {b : Bool} (hd : E.get d = some (.bool b)) (h1 : b = true → OWp P B n ops l Q ((d, .bool true) :: E) S)
    (h2 : b = false → OWp P B n ops l Q ((d, .bool false) :: E) S) : OWp P B n ops l Q E S := by
  intro a w hS hA
  cases b with
  | true =>
    refine h1 rfl a w hS ⟨fun k v hk => ?_, hA.size, hA.defers⟩
    rw [Env.get_cons] at hk
    split at hk
    · rename_i e; subst e; rw [← hk]; exact hA.reads _ _ hd
    · exact hA.reads k v hk
  | false =>
    refine h2 rfl a w hS ⟨fun k v hk => ?_, hA.size, hA.defers⟩
    rw [Env.get_cons] at hk
    split at hk
    · rename_i e; subst e; rw [← hk]; exact hA.reads _ _ hd
    · exact hA.reads k v hk

theorem OWp.weaken {l : List Oper} {E' : Env} {S' : Ents} (hE : Env.Sub E' E) (hS : ∀ w, Sim B S w → Sim B S' w) (h : OWp P B n ops l Q E' S') : OWp P B n ops l Q E S :=
  fun a w hs hA => h a w (hS w hs) (hA.sub hE)

/-- A call. -/
theorem Step.call {K : Env → Ents → Prop} {c : Call} {f : FuncId} {cap : Array Value} {x : Operand} {vs : List Value} (hd : dstOk n o.dst = true)
    (ho : o.op = .call c) (hc : c.callee = .value x) (hx : opd E x = some (.func (.func f) #[] cap)) (hvs : opds E c.args.toList = some vs)
    (hbody : callable P f = true) (h : CallWp P B f (vs ++ cap.toList).toArray (fun v S' => K (putE E o.dst v) S') S) : Step P B n o K E S := by
  intro a w hS hA
  unfold Oper.wp
  have hargs : c.args.map a.eval = vs.toArray := by
    apply Array.ext'
    simpa using opds_sound hA hvs
  have e : (execOp a.eval o).run P w = .ok (.enter f (vs ++ cap.toList).toArray) w := by
    have hh : execOp a.eval o = callFunc f (vs.toArray ++ cap) := by
      simp [execOp, ho, resolve, hc, opd_sound hA hx, Deferred.ofValue, hargs, invoke]
    rw [hh, callable_run hbody]
    congr 2
    apply Array.ext'
    simp
  rw [e]
  simp only [Oper.upon]
  refine (h w hS).mono ?_
  rintro e w' ⟨v, S', rfl, hb, hs, q⟩
  exact ⟨hb, _, S', hs, hA.putE hd v, q⟩
end
end Go.Lg

namespace Go.Lg
open Go.RowKit (Below)

/-- A row of cells. -/
abbrev cel (l : List Value) (e : TypeId) (fz : Nat × Nat := (0, 0)) : Obj := .cells l.toArray e fz

def Unfz (fz : Nat × Nat) (k : Nat) : Prop := fz.2 ≤ fz.1 ∨ k ≤ fz.1
theorem Unfz.zero (k : Nat) : Unfz (0, 0) k := .inl (Nat.le_refl 0)

section
variable {P : Program} {B n : Nat} {S : Ents} {w : World}

theorem Sim.lt (h : Sim B S w) {x : Nat × Obj} (hx : x ∈ S) : x.1 < w.heap.size :=
  (Array.getElem?_eq_some_iff.1 (h.holds x hx)).1

theorem Sim.alloc (h : Sim B S w) (o : Obj) : Sim B ((w.heap.size, o) :: S) (w.alloc o) := by
  refine ⟨?_, ?_, by have := h.base; simp; omega⟩
  · intro x hx
    cases hx with
    | head => exact Go.heap_alloc_new w o
    | tail _ hx => rw [Below.heap_alloc w o x.1 (h.lt hx)]; exact h.holds x hx
  · refine List.pairwise_cons.2 ⟨fun x hx e => ?_, h.own⟩
    exact absurd (h.lt hx) (by simp only at e; omega)

theorem Sim.drew (h : Sim B S w) : Sim B S w.drew := ⟨h.holds, h.own, h.base⟩

theorem Sim.sublist {S' : Ents} (h : Sim B S w) (hs : S'.Sublist S) : Sim B S' w :=
  ⟨fun x hx => h.holds x (hs.subset hx), h.own.sublist hs, h.base⟩

theorem Sim.perm {S' : Ents} (h : Sim B S w) (hs : S.Perm S') : Sim B S' w :=
  ⟨fun x hx => h.holds x (hs.symm.subset hx), (hs.pairwise_iff (fun {x y} (hxy : x.1 = y.1 → x.1 < B) (e : y.1 = x.1) => by have := hxy e.symm; omega)).1 h.own, h.base⟩

def takeOut : Nat → Ents → Option ((Nat × Obj) × Ents)
  | _, [] => none
  | 0, x :: xs => some (x, xs)
  | i + 1, x :: xs => match takeOut i xs with
    | some (y, r) => some (y, x :: r)
    | none => none

theorem takeOut_perm : ∀ (i : Nat) (S : Ents) (x : Nat × Obj) (r : Ents), takeOut i S = some (x, r) → S.Perm (x :: r)
  | _, [], _, _, h => by simp [takeOut] at h
  | 0, x :: xs, _, _, h => by simp [takeOut] at h; obtain ⟨rfl, rfl⟩ := h; exact .refl _
  | i + 1, x :: xs, y, r, h => by
    simp only [takeOut] at h
    split at h
    · rename_i z q hq
      have := takeOut_perm i xs z q hq
      simp at h; obtain ⟨rfl, rfl⟩ := h
      exact (this.cons x).trans (.swap _ _ _)
    · cases h

def setEnt : Ents → Nat → Nat × Obj → Option Ents
  | _ :: xs, 0, z => some (z :: xs)
  | x :: xs, i + 1, z => match setEnt xs i z with
    | some r => some (x :: r)
    | none => none
  | [], _, _ => none

def entAt : Ents → Nat → Option (Nat × Obj)
  | x :: _, 0 => some x
  | _ :: xs, i + 1 => entAt xs i
  | [], _ => none

theorem entAt_mem : ∀ {S : Ents} {i : Nat} {x : Nat × Obj}, entAt S i = some x → x ∈ S
  | _ :: _, 0, _, h => by simp [entAt] at h; simp [h]
  | _ :: xs, i + 1, _, h => by simp only [entAt] at h; exact List.mem_cons_of_mem _ (entAt_mem h)
  | [], _, _, h => by simp [entAt] at h

/-- Block b of S turned, in a world where it has turned alone. -/
theorem Sim.turn {w' : World} : ∀ {S S' : Ents} {i b : Nat} {o o' : Obj}, Sim B S w → entAt S i = some (b, o) → setEnt S i (b, o') = some S' → B ≤ b →
    w'.heap[b]? = some o' → (∀ k, k ≠ b → w'.heap[k]? = w.heap[k]?) → w.heap.size ≤ w'.heap.size → Sim B S' w'
  | x :: xs, S', 0, b, o, o', h, he, hs, hB, hb, hk, hsz => by
    simp [entAt] at he; subst he
    simp [setEnt] at hs; subst hs
    have hp := List.pairwise_cons.1 h.own
    refine ⟨?_, ?_, Nat.le_trans h.base hsz⟩
    · intro y hy
      cases hy with
      | head => exact hb
      | tail _ hy =>
        rw [hk y.1 (fun e => by have := hp.1 y hy e.symm; simp only at this; omega)]
        exact h.holds y (List.mem_cons_of_mem _ hy)
    · exact List.pairwise_cons.2 ⟨hp.1, hp.2⟩
  | x :: xs, S', i + 1, b, o, o', h, he, hs, hB, hb, hk, hsz => by
    simp only [entAt] at he
    simp only [setEnt] at hs
    split at hs
    · rename_i r hr
      obtain rfl := Option.some.inj hs
      have hp := List.pairwise_cons.1 h.own
      have ih := Sim.turn (w' := w') (S := xs) ⟨fun y hy => h.holds y (by simp [hy]), hp.2, h.base⟩ he hr hB hb hk hsz
      have hne : x.1 ≠ b := fun e => by have := hp.1 (b, o) (entAt_mem he) e; omega
      refine ⟨?_, ?_, ih.base⟩
      · intro y hy
        cases hy with
        | head => rw [hk _ hne]; exact h.holds x (by simp)
        | tail _ hy => exact ih.holds y hy
      · refine List.pairwise_cons.2 ⟨fun y hy e => ?_, ih.own⟩
        -- the turned entry has b for its key, all others stood in xs
        rcases setEnt_mem hr hy with hy' | rfl
        · exact hp.1 y hy' e
        · exact (hne e).elim
    · cases hs
  | [], _, _, _, _, _, _, he, _, _, _, _, _ => by simp [entAt] at he
where
  setEnt_mem : ∀ {S : Ents} {i : Nat} {z : Nat × Obj} {r : Ents}, setEnt S i z = some r → ∀ {y}, y ∈ r → y ∈ S ∨ y = z
    | _ :: xs, 0, z, r, h, y, hy => by simp [setEnt] at h; subst h; simp at hy; rcases hy with hy | hy <;> simp [hy]
    | x :: xs, i + 1, z, r, h, y, hy => by
      simp only [setEnt] at h
      split at h
      · rename_i q hq
        obtain rfl := Option.some.inj h
        simp at hy
        rcases hy with rfl | hy
        · simp
        · rcases setEnt_mem hq hy with hy | hy <;> simp [hy]
      · cases h
    | [], _, _, _, h, _, _ => by simp [setEnt] at h

/-- Reading. -/
theorem loadCells_at {b o m : Nat} {l vs : List Value} {e : TypeId} {fz : Nat × Nat} (hb : w.heap[b]? = some (cel l e fz)) (hv : takeN m (l.drop o) = some vs) :
    (loadCells ⟨b, o, none⟩ m).run P w = .ok vs.toArray w := by
  obtain ⟨rfl, hm⟩ := takeN_eq _ _ _ hv
  have hl : ((l.drop o).take m).length = m := by rw [List.length_take]; omega
  have := run_loadCells_list (P := P) w ⟨b, o, none⟩ ((l.drop o).take m) (fun j v hj => by
    have hadd : (⟨b, o, none⟩ : Addr).add j = ⟨b, o + j, none⟩ := Addr.add_lit _ _ _
    rw [hadd]
    rw [List.getElem?_take] at hj
    split at hj
    · simp only [World.cell?, hb]
      simpa using hj
    · cases hj)
  rw [hl] at this
  exact this

theorem loadVar_at {b o : Nat} {t : TypeId} {l : List Value} {e : TypeId} {fz : Nat × Nat} {v : Value} (hb : w.heap[b]? = some (cel l e fz)) (hv : partAt P t l o = some v) :
    (loadVar t ⟨b, o, none⟩).run P w = .ok v w := by
  unfold partAt at hv
  split at hv
  · rename_i n ha hs
    split at hv
    · rename_i vs hvs
      obtain rfl := Option.some.inj hv
      simp only [loadVar, Sem.run_bind, isAggT_run ha, Result.andThen_ok, if_true, sizeOfT_run hs, loadCells_at hb hvs, Sem.run_pure]
    · cases hv
  · rename_i n ha hs
    have hc : w.cell? ⟨b, o, none⟩ = some v := by simp [World.cell?, hb, hv]
    simp [loadVar, isAggT_run ha, hc]
  · cases hv

/-- Cells written over. -/
def wr (l : List Value) (o : Nat) (vs : List Value) : List Value := l.take o ++ vs ++ l.drop (o + vs.length)

theorem setAt_eq : ∀ (l : List Value) (o : Nat) (vs r : List Value), setAt l o vs = some r → r = wr l o vs ∧ o + vs.length ≤ max o l.length ∧ (vs ≠ [] → o + vs.length ≤ l.length)
  | l, o, [], r, h => by
    have : r = l := by cases l <;> cases o <;> simp [setAt] at h <;> simp [h]
    subst this
    simp [wr]; omega
  | c :: cs, 0, v :: vs, r, h => by
    simp only [setAt] at h
    split at h
    · rename_i q hq
      obtain rfl := Option.some.inj h
      obtain ⟨rfl, h2, h3⟩ := setAt_eq cs 0 vs q hq
      refine ⟨by simp [wr], ?_, fun _ => ?_⟩
      · cases vs <;> simp at * <;> omega
      · cases vs <;> simp at * <;> omega
    · cases h
  | c :: cs, k + 1, v :: vs, r, h => by
    simp only [setAt] at h
    split at h
    · rename_i q hq
      obtain rfl := Option.some.inj h
      obtain ⟨rfl, h2, h3⟩ := setAt_eq cs k (v :: vs) q hq
      have := h3 (by simp)
      refine ⟨by simp [wr, show k + 1 + (vs.length + 1) = k + (vs.length + 1) + 1 by omega], ?_, fun _ => ?_⟩ <;> simp at * <;> omega
    · cases h
  | [], k, v :: vs, r, h => by cases k <;> simp [setAt] at h

theorem storeCells_run (g o : Nat) (t : TypeId) (fz : Nat × Nat) : ∀ (vs : List Value) (i : Nat) (cur : Array Value) (w : World), w.heap[g]? = some (.cells cur t fz) → o + i + vs.length ≤ cur.size → Unfz fz cur.size → (∀ v ∈ vs, v.oneCell' = true) →
    (storeCells ⟨g, o, none⟩ vs i).run P w = .ok () (w.setRow g (cur.toList.take (o + i) ++ vs ++ cur.toList.drop (o + i + vs.length)).toArray)
  | [], i, cur, w, hg, _, _, _ => by
    simp only [storeCells, List.append_nil, List.length_nil, Nat.add_zero, List.take_append_drop, Array.toArray_toList]
    rw [setRow_self w g cur t fz hg]
    rfl
  | v :: rest, i, cur, w, hg, hl, hz, h1 => by
    have hi : o + i < cur.size := by simp at hl; omega
    have hadd : (⟨g, o, none⟩ : Addr).add i = ⟨g, o + i, none⟩ := by unfold Addr.add; split <;> simp_all
    have hcell : w.cell? ⟨g, o + i, none⟩ = some cur[o + i] := by simp [World.cell?, hg, hi]
    have hfro : w.frozen? ⟨g, o + i, none⟩ = false := by
      simp only [World.frozen?, hg]
      unfold Unfz at hz
      simp only [Bool.and_eq_false_iff, decide_eq_false_iff_not]
      omega
    have hst : (store ((⟨g, o, none⟩ : Addr).add i) v).run P w = .ok () (w.setRow g (cur.setIfInBounds (o + i) v)) := by
      rw [hadd, run_store P w _ v _ (h1 v (by simp)), hcell]
      simp [hfro, setCell_eq_setRow w g (o + i) cur t fz v hg]
    have ih := storeCells_run g o t fz rest (i + 1) (cur.setIfInBounds (o + i) v) (w.setRow g (cur.setIfInBounds (o + i) v)) (setRow_heap w g cur _ t _ hg) (by simp at hl ⊢; omega) (by simpa using hz) (fun x hx => h1 x (by simp [hx]))
    simp only [storeCells, Sem.run_bind, hst, Result.andThen_ok, ih, setRow_setRow]
    congr 3
    have e := list_seg_step cur.toList (o + i) v rest (by simp at hl ⊢; omega)
    simpa [Array.toList_setIfInBounds, Nat.add_assoc] using e

theorem below_setRow {g : Nat} (hB : B ≤ g) (cs : Array Value) : Below B w (w.setRow g cs) :=
  ⟨rfl, rfl, rfl, by simp, fun k hk => setRow_other w g k cs (by omega)⟩

theorem storeVar_run {g o : Nat} {t ty : TypeId} {fz : Nat × Nat} {l : List Value} {v : Value} (hg : w.heap[g]? = some (cel l t fz)) (hs : sizeOfT P ty = some v.cells.size)
    (hl : o + v.cells.size ≤ l.length) (hz : Unfz fz l.length) (h1 : v.cells.toList.all (·.oneCell') = true) :
    (storeVar ty ⟨g, o, none⟩ v).run P w = .ok () (w.setRow g (wr l o v.cells.toList).toArray) := by
  have := storeCells_run (P := P) g o t fz v.cells.toList 0 l.toArray w hg (by simpa using hl) (by simpa using hz) (fun x hx => List.all_eq_true.1 h1 x hx)
  simp only [storeVar, Sem.run_bind, sizeOfT_run hs, Result.andThen_ok, ne_eq, not_true_eq_false, if_false]
  rw [this]
  simp [wr]
end
end Go.Lg

namespace Go.Lg
open Go.RowKit (Below)

section
variable {P : Program} {B n : Nat} {E : Env} {S : Ents} {o : Oper} {K : Env → Ents → Prop}

/-- The slots at a function's begin. -/
def args0 : List Value → Nat → Env
  | [], _ => []
  | v :: vs, i => (i, v) :: args0 vs (i + 1)

theorem args0_get : ∀ (vs : List Value) (i d : Nat) (v : Value), Env.get (args0 vs i) d = some v → i ≤ d ∧ vs[d - i]? = some v
  | [], _, _, _, h => by simp [args0, Env.get] at h
  | u :: vs, i, d, v, h => by
    simp only [args0] at h
    rw [Env.get_cons] at h
    split at h
    · rename_i e; subst e; simpa using h
    · rename_i e
      obtain ⟨h1, h2⟩ := args0_get vs (i + 1) d v h
      refine ⟨by omega, ?_⟩
      have : d - i = d - (i + 1) + 1 := by omega
      rw [this]; simpa using h2

/-- What a cell's place reads as. -/
def Loads (P : Program) (S : Ents) (b o : Nat) (t : TypeId) (v : Value) : Prop :=
  ∃ l e fz, (b, cel l e fz) ∈ S ∧ partAt P t l o = some v

theorem Loads.run {b o' : Nat} {t : TypeId} {v : Value} (h : Loads P S b o' t v) {w : World} (hS : Sim B S w) : (loadVar t ⟨b, o', none⟩).run P w = .ok v w := by
  obtain ⟨l, e, fz, hm, hp⟩ := h
  exact loadVar_at (hS.holds _ hm) hp

def ResV (P : Program) (E : Env) (S : Ents) : List ResultVar → List Value → Prop
  | [], vs => vs = []
  | .tmp t :: r, vs => ∃ v vs', vs = v :: vs' ∧ E.get t = some v ∧ ResV P E S r vs'
  | .cell a t :: r, vs => ∃ b o v vs', vs = v :: vs' ∧ E.get a = some (.pointer (some ⟨b, o, none⟩)) ∧ Loads P S b o t v ∧ ResV P E S r vs'

def tup : List Value → Value
  | [v] => v
  | vs => .tuple vs.toArray

def RetQ (P : Program) (rs : List ResultVar) (Q : Value → Ents → Prop) (e : Exit) (E : Env) (S : Ents) : Prop :=
  (match e with | .normal => True | .ret => True | _ => False) ∧ ∃ vs, ResV P E S rs vs ∧ Q (tup vs) S

def resM (t : Array Value) : ResultVar → Sem Value
  | .tmp k => Pure.pure (t.getD k undef)
  | .cell p ty => do loadVar ty (← asAddr (t.getD p undef))

theorem ResV.run {a : Act} {w : World} (hA : Agree E n a) (hS : Sim B S w) : ∀ (rs : List ResultVar) (vs : List Value), ResV P E S rs vs →
    (rs.mapM (resM a.tmps)).run P w = .ok vs w
  | [], vs, h => by simp only [ResV] at h; subst h; rfl
  | .tmp t :: r, vs, h => by
    obtain ⟨v, vs', rfl, he, hr⟩ := h
    have ih := ResV.run hA hS r vs' hr
    have hv := hA.reads t v he
    rw [List.mapM_cons]
    simp [ih, hv, resM]
  | .cell p t :: r, vs, h => by
    obtain ⟨b, o, v, vs', rfl, he, hl, hr⟩ := h
    have ih := ResV.run hA hS r vs' hr
    have hv := hA.reads p _ he
    rw [List.mapM_cons]
    simp [ih, hv, asAddr, hl.run hS, resM]

theorem results_eq (fn : Func) (t : Array Value) : results fn t = (do let vs ← fn.results.mapM (resM t); Pure.pure (if h : vs.size = 1 then vs[0] else .tuple vs)) := by
  unfold results
  congr 2

theorem results_run {fn : Func} {a : Act} {w : World} {vs : List Value} (hA : Agree E n a) (hS : Sim B S w) (h : ResV P E S fn.results.toList vs) :
    (results fn a.tmps).run P w = .ok (tup vs) w := by
  have h1 := ResV.run hA hS _ vs h
  have h2 : (fn.results.mapM (resM a.tmps)).run P w = .ok vs.toArray w := by
    rw [Array.mapM_eq_mapM_toList]
    simp only [Sem.run_map]
    rw [h1]
    rfl
  rw [results_eq]
  simp only [Sem.run_bind, h2, Result.andThen_ok, Sem.run_pure]
  congr 1
  match vs with
  | [] => rfl
  | [v] => rfl
  | u :: v :: r => simp [tup]

theorem CallWp.enter {f : FuncId} {fn : Func} {c : Code} {args : List Value} {Q : Value → Ents → Prop} (hf : P.funcs[f]? = some fn) (hb : fn.body = some c) (hn : fn.ntmps = n)
    (ha : Nat.ble args.length n = true) (h : Wp P B n c (RetQ P fn.results.toList Q) (args0 args 0) S) : CallWp P B f args.toArray Q S := by
  intro w hS
  refine calls_of_wp hf hb ?_
  have hlen : args.length ≤ n := by simpa [Nat.ble_eq] using ha
  have hA : Agree (args0 args 0) n { tmps := args.toArray ++ Array.replicate (fn.ntmps - args.toArray.size) undef, defers := [] } := by
    refine ⟨fun d v hd => ?_, by simp; omega, rfl⟩
    obtain ⟨_, h2⟩ := args0_get args 0 d v hd
    have hlt : d < args.length := (List.getElem?_eq_some_iff.1 h2).1
    simp only [Nat.sub_zero] at h2
    rw [Array.getElem?_append_left (by simpa using hlt)]
    simpa using h2
  refine wp_mono (h _ w hS hA) ?_
  rintro e a' w' ⟨_, E', S', hb, hs, ha, hr, vs, hres, q⟩
  have hrun := results_run (fn := fn) ha hs hres
  cases e with
  | normal => exact ⟨ha.defers, _, hrun, _, S', rfl, hb, hs, q⟩
  | ret => exact ⟨ha.defers, _, hrun, _, S', rfl, hb, hs, q⟩
  | exit _ => exact hr.elim
  | goto _ => exact hr.elim
  | panic _ => exact hr.elim
  | outgrown => exact hr.elim

/-- A read. -/
theorem Gives.load {t : TypeId} {x : Operand} {b o' : Nat} {v : Value} {l : List Value} {e : TypeId} {fz : Nat × Nat}
    (ho : o.op = .load t x) (hx : opd E x = some (.pointer (some ⟨b, o', none⟩))) (hp : partAt P t l o' = some v) :
    Gives P n [(b, cel l e fz)] E o v := by
  intro a w hS hA
  have := loadVar_at (P := P) (hS (b, cel l e fz) (by simp)) hp
  simp [execOp, ho, opd_sound hA hx, Instr.loadAt, Instr.sureAddr, this]

/-- An operation that makes one new row. -/
theorem Step.makes {v : Nat → Value} {ob : Obj} (hd : dstOk n o.dst = true)
    (hr : ∀ a w, Sim B S w → Agree E n a → (execOp a.eval o).run P w = .ok (.value (v w.heap.size)) (w.alloc ob))
    (h : ∀ L, B ≤ L → (∀ x ∈ S, x.1 < L) → K (putE E o.dst (v L)) ((L, ob) :: S)) : Step P B n o K E S := by
  intro a w hS hA
  unfold Oper.wp
  rw [hr a w hS hA]
  exact ⟨(Below.refl B w).alloc hS.base ob, _, _, hS.alloc ob, hA.putE hd _, h _ hS.base fun x hx => hS.lt hx⟩

def zeroOf (P : Program) (t : TypeId) : Option (List Value) :=
  match P.info? t with
  | some i => match i.zero with
    | some z => some (cellsOf z)
    | none => none
  | none => none

theorem cellsOf_eq (v : Value) : v.cells = (cellsOf v).toArray := by cases v <;> simp [Value.cells, cellsOf]

theorem zeroOf_run {t : TypeId} {z : List Value} (h : zeroOf P t = some z) (w : World) : ∃ v, (zeroValue t).run P w = .ok v w ∧ v.cells = z.toArray := by
  unfold zeroOf at h
  split at h
  · rename_i i hi
    split at h
    · rename_i v hv
      obtain rfl := Option.some.inj h
      exact ⟨v, by simp [zeroValue, typeInfo, hi, hv], cellsOf_eq v⟩
    · cases h
  · cases h

theorem Step.alloc {t : TypeId} {z : List Value} (hd : dstOk n o.dst = true) (ho : o.op = .alloc t) (hz : zeroOf P t = some z)
    (h : ∀ L, B ≤ L → (∀ x ∈ S, x.1 < L) → K (putE E o.dst (.pointer (some ⟨L, 0, none⟩))) ((L, cel z t) :: S)) : Step P B n o K E S := by
  refine Step.makes (v := fun L => .pointer (some ⟨L, 0, none⟩)) hd (fun a w hS hA => ?_) h
  obtain ⟨v, hv, hc⟩ := zeroOf_run (P := P) hz w
  simp [execOp, ho, Instr.alloc, hv, newVar, newRow, hc]

theorem Step.box {t : TypeId} {x : Operand} {v : Value} (hd : dstOk n o.dst = true) (ho : o.op = .box t x) (hx : opd E x = some v)
    (h : ∀ L, B ≤ L → (∀ x ∈ S, x.1 < L) → K (putE E o.dst (.pointer (some ⟨L, 0, none⟩))) ((L, cel (cellsOf v) t) :: S)) : Step P B n o K E S := by
  refine Step.makes (v := fun L => .pointer (some ⟨L, 0, none⟩)) hd (fun a w hS hA => ?_) h
  simp [execOp, ho, Instr.box, opd_sound hA hx, newVar, newRow, cellsOf_eq]

/-- A store into a row of the call's own: entry i. -/
theorem Step.store {t : TypeId} {x y : Operand} {b o' : Nat} {v : Value} (i : Nat) {l : List Value} {e : TypeId} {fz : Nat × Nat} {S' : Ents} (hd : dstOk n o.dst = true)
    (ho : o.op = .store t x y) (hx : opd E x = some (.pointer (some ⟨b, o', none⟩))) (hy : opd E y = some v) (he : entAt S i = some (b, cel l e fz)) (hB : B ≤ b)
    (hs : sizeOfT P t = some v.cells.size) (hl : o' + v.cells.size ≤ l.length) (hz : Unfz fz l.length) (h1 : v.cells.toList.all (·.oneCell') = true)
    (hS' : setEnt S i (b, cel (wr l o' v.cells.toList) e fz) = some S')
    (h : K (putE E o.dst undef) S') : Step P B n o K E S := by
  intro a w hS hA
  unfold Oper.wp
  have hgb := hS.holds _ (entAt_mem he)
  have hr : (execOp a.eval o).run P w = .ok .skip (w.setRow b (wr l o' v.cells.toList).toArray) := by
    simp only [execOp, ho, opd_sound hA hx, opd_sound hA hy, Instr.storeAt, Instr.sureAddr, Sem.run_bind, Sem.run_pure, Result.andThen_ok]
    rw [storeVar_run hgb hs hl hz h1]
    rfl
  rw [hr]
  refine ⟨below_setRow hB _, _, S', ?_, hA.putE hd undef, h⟩
  exact hS.turn he hS' hB (setRow_heap w b _ _ e fz hgb) (fun k hk => setRow_other w b k _ hk) (by simp)

/-- A literal's cells. -/
def fillL (place : Nat → Option (Nat × Nat)) : List (Nat × Value) → List Value → Option (List Value)
  | [], cs => some cs
  | (i, v) :: r, cs => match place i with
    | some (off, sz) => match Nat.beq (cellsOf v).length sz, Nat.ble off cs.length, setAt cs off (cellsOf v) with
      | true, true, some cs' => fillL place r cs'
      | _, _, _ => none
    | none => none

theorem foldl_set (vs : List Value) : ∀ (off k : Nat) (cs : Array Value), (vs.zipIdx k).foldl (fun cs (x : Value × Nat) => cs.setIfInBounds (off + x.2) x.1) cs =
    (vs.zipIdx 0).foldl (fun cs (x : Value × Nat) => cs.setIfInBounds (off + k + x.2) x.1) cs := by
  induction vs with
  | nil => intro _ _ _; rfl
  | cons v vs ih =>
    intro off k cs
    simp only [List.zipIdx_cons, List.foldl_cons, Nat.add_zero, Nat.zero_add]
    rw [ih off (k + 1), ih (off + k) 1]
    simp only [Nat.add_assoc]

theorem foldl_wr (vs : List Value) : ∀ (off : Nat) (cs : List Value), off + vs.length ≤ cs.length →
    (vs.zipIdx 0).foldl (fun (cs : Array Value) (x : Value × Nat) => cs.setIfInBounds (off + x.2) x.1) cs.toArray = (wr cs off vs).toArray := by
  induction vs with
  | nil => intro off cs _; simp [wr]
  | cons v vs ih =>
    intro off cs h
    simp only [List.zipIdx_cons, List.foldl_cons, Nat.add_zero, Nat.zero_add]
    rw [foldl_set vs off 1, List.setIfInBounds_toArray]
    rw [ih (off + 1) _ (by simp at h ⊢; omega)]
    congr 1
    have e := list_seg_step cs off v vs (by simp at h ⊢; omega)
    simpa [wr, Nat.add_assoc, Nat.add_comm, Nat.add_left_comm] using e

theorem fillL_eq (place : Nat → Option (Nat × Nat)) : ∀ (ps : List (Nat × Value)) (cs r : List Value),
    fillL place ps cs = some r → Instr.fill place cs.toArray ps = some r.toArray
  | [], cs, r, h => by simp [fillL] at h; simp [Instr.fill, h]
  | (i, v) :: ps, cs, r, h => by
    simp only [fillL] at h
    split at h
    · rename_i off sz hoff
      split at h
      · rename_i cs' hsz hle hcs
        have hle : off ≤ cs.length := by simpa [Nat.ble_eq] using hle
        have hsz : (cellsOf v).length = sz := by simpa using hsz
        obtain ⟨rfl, h2, h3⟩ := setAt_eq _ _ _ _ hcs
        have ih := fillL_eq place ps _ r h
        have hvs : v.cells.size = (cellsOf v).length := by rw [cellsOf_eq]; simp
        simp only [Instr.fill, hoff]
        by_cases he : cellsOf v = []
        · have hv0 : v.cells = #[] := by rw [cellsOf_eq, he]
          have hw : wr cs off (cellsOf v) = cs := by rw [he]; simp [wr]
          rw [hw] at ih
          have : sz = 0 := by rw [← hsz, he]; rfl
          rw [if_neg (by rw [hv0, this]; simp; exact hle), hv0]
          exact ih
        · have hl := h3 he
          rw [if_neg (by simp [hvs, hsz]; omega)]
          rw [show v.cells.zipIdx.foldl (fun cs (x : Value × Nat) => cs.setIfInBounds (off + x.2) x.1) cs.toArray = (wr cs off (cellsOf v)).toArray from ?_]
          · exact ih
          · rw [cellsOf_eq]
            have := foldl_wr (cellsOf v) off cs hl
            simpa using this
      · cases h
    · cases h

def placesOf (P : Program) : List Field → Option (List (Nat × Nat))
  | [] => some []
  | f :: fs => match sizeOfT P f.type, placesOf P fs with
    | some s, some r => some ((f.offset, s) :: r)
    | _, _ => none

theorem placesOf_run (w : World) : ∀ (fs : List Field) (r : List (Nat × Nat)), placesOf P fs = some r →
    (fs.mapM fun f => (do Pure.pure (f.offset, ← sizeOf f.type) : Sem (Nat × Nat))).run P w = .ok r w
  | [], r, h => by simp [placesOf] at h; subst h; rfl
  | f :: fs, r, h => by
    simp only [placesOf] at h
    split at h
    · rename_i s q hs hq
      obtain rfl := Option.some.inj h
      have ih := placesOf_run w fs q hq
      rw [List.mapM_cons]
      simp only [Sem.run_bind, sizeOfT_run hs, Result.andThen_ok, Sem.run_pure]
      rw [ih]
      rfl
    · cases h

def partsE (E : Env) : List (Nat × Operand) → Option (List (Nat × Value))
  | [] => some []
  | (i, x) :: r => match opd E x, partsE E r with
    | some v, some q => some ((i, v) :: q)
    | _, _ => none

theorem partsE_eq {a : Act} (hA : Agree E n a) : ∀ (ps : List (Nat × Operand)) (r : List (Nat × Value)), partsE E ps = some r → ps.map (fun (i, x) => (i, a.eval x)) = r
  | [], r, h => by simp [partsE] at h; simp [h]
  | (i, x) :: ps, r, h => by
    simp only [partsE] at h
    split at h
    · rename_i v q hv hq
      obtain rfl := Option.some.inj h
      simp [opd_sound hA hv, partsE_eq hA ps q hq]
    · cases h

def buildV (P : Program) (E : Env) (t : TypeId) (ps : List (Nat × Operand)) : Option Value :=
  match zeroOf P t, P.underlying t, partsE E ps with
  | some z, some (.struct fs), some q => match placesOf P fs.toList with
    | some pl => match fillL (fun i => pl[i]?) q z with
      | some cs => some (.agg cs.toArray)
      | none => none
    | none => none
  | some z, some (.array _ e), some q => match sizeOfT P e with
    | some s => match fillL (fun i => some (i * s, s)) q z with
      | some cs => some (.agg cs.toArray)
      | none => none
    | none => none
  | _, _, _ => none

theorem Gives.build {t : TypeId} {ps : Array (Nat × Operand)} {v : Value} (ho : o.op = .build t ps) (hv : buildV P E t ps.toList = some v) :
    Gives P n [] E o v := by
  intro a w hS hA
  unfold buildV at hv
  have hps : ∀ q, partsE E ps.toList = some q → ps.map (fun (i, x) => (i, a.eval x)) = q.toArray := by
    intro q hq
    apply Array.ext'
    simpa using partsE_eq hA _ _ hq
  split at hv
  · rename_i z fs q hz hu hq
    obtain ⟨zv, hzr, hzc⟩ := zeroOf_run (P := P) hz w
    split at hv
    · rename_i pl hpl
      split at hv
      · rename_i cs hcs
        obtain rfl := Option.some.inj hv
        have h1 := placesOf_run (P := P) w _ _ hpl
        have h2 : (fs.mapM fun f => (do Pure.pure (f.offset, ← sizeOf f.type) : Sem (Nat × Nat))).run P w = .ok pl.toArray w := by
          rw [Array.mapM_eq_mapM_toList]
          simp only [Sem.run_map]
          rw [h1]
          rfl
        have hf := fillL_eq _ _ _ _ hcs
        have hf' : Instr.fill (fun i => pl.toArray[i]?) z.toArray q = some cs.toArray := by simpa using hf
        simp only [execOp, ho, hps q hq, Instr.build, Sem.run_bind, hzr, Result.andThen_ok, run_underlying hu, hzc]
        rw [h2]
        simp only [Result.andThen_ok]
        simp only [hf']
        rfl
      · cases hv
    · cases hv
  · rename_i z k e q hz hu hq
    obtain ⟨zv, hzr, hzc⟩ := zeroOf_run (P := P) hz w
    split at hv
    · rename_i sz hsz
      split at hv
      · rename_i cs hcs
        obtain rfl := Option.some.inj hv
        have hf := fillL_eq _ _ _ _ hcs
        simp only [execOp, ho, hps q hq, Instr.build, Sem.run_bind, hzr, Result.andThen_ok, run_underlying hu, hzc, sizeOfT_run hsz]
        simp only [hf]
        rfl
      · cases hv
    · cases hv
  · cases hv

/-- So many zeros, laid one behind the other. -/
def zeros (z : List Value) : Nat → List Value
  | 0 => []
  | k + 1 => z ++ zeros z k

theorem zeros_length (z : List Value) (k : Nat) : (zeros z k).length = k * z.length := by
  induction k with
  | zero => simp [zeros]
  | succ k ih => simp [zeros, ih, Nat.succ_mul, Nat.add_comm]

theorem zeros_get (z : List Value) : ∀ (k i : Nat), i < k * z.length → (zeros z k)[i]? = z[i % z.length]?
  | 0, i, h => by simp at h
  | k + 1, i, h => by
    have hz : 0 < z.length := by
      rcases Nat.eq_zero_or_pos z.length with h0 | h0
      · rw [h0] at h; simp at h
      · exact h0
    simp only [zeros]
    by_cases hi : i < z.length
    · rw [List.getElem?_append_left hi, Nat.mod_eq_of_lt hi]
    · have hge : z.length ≤ i := by omega
      rw [List.getElem?_append_right hge, zeros_get z k (i - z.length) (by rw [Nat.succ_mul] at h; omega)]
      congr 1
      exact (Nat.mod_eq_sub_mod hge).symm

theorem range_zeros (z : List Value) (k : Nat) (hz : 0 < z.length) : (Array.range (k * z.length)).map (fun i => z.toArray[i % z.toArray.size]!) = (zeros z k).toArray := by
  apply Array.ext
  · simp [zeros_length]
  · intro i h1 h2
    simp only [Array.size_map, Array.size_range] at h1
    have hm : i % z.length < z.length := Nat.mod_lt _ hz
    have h3 := zeros_get z k i h1
    rw [List.getElem?_eq_getElem hm] at h3
    have h4 : (zeros z k)[i]? = some (zeros z k)[i] := List.getElem?_eq_getElem (by simpa using h2)
    rw [h4] at h3
    simp only [Array.getElem_map, Array.getElem_range, List.getElem_toArray, List.size_toArray]
    rw [Option.some.inj h3]
    simp [hm]

def buildSliceL (P : Program) (E : Env) (t : TypeId) (len : Nat) (ps : List (Nat × Operand)) : Option (TypeId × List Value) :=
  match P.underlying t, partsE E ps with
  | some (.slice e), some q => match sizeOfT P e, zeroOf P e with
    | some (s + 1), some z => match Nat.beq z.length (s + 1), Nat.ble (len * (s + 1)) 16777216, fillL (fun i => some (i * (s + 1), s + 1)) q (zeros z len) with
      | true, true, some cs => some (e, cs)
      | _, _, _ => none
    | _, _ => none
  | _, _ => none

theorem Step.buildSlice {t : TypeId} {len : Nat} {ps : Array (Nat × Operand)} {e : TypeId} {cs : List Value} (hd : dstOk n o.dst = true) (ho : o.op = .buildSlice t len ps)
    (hv : buildSliceL P E t len ps.toList = some (e, cs))
    (h : ∀ L, B ≤ L → (∀ x ∈ S, x.1 < L) → K (putE E o.dst (.slice (some ⟨L, 0, none⟩) len len)) ((L, cel cs e) :: S)) : Step P B n o K E S := by
  refine Step.makes (v := fun L => .slice (some ⟨L, 0, none⟩) len len) hd (fun a w hS hA => ?_) h
  unfold buildSliceL at hv
  split at hv
  · rename_i e' q hu hq
    split at hv
    · rename_i s z hs hz
      split at hv
      · rename_i cs' hzl hle hcs
        simp only [Option.some.injEq, Prod.mk.injEq] at hv
        obtain ⟨rfl, rfl⟩ := hv
        have hzl : z.length = s + 1 := by simpa using hzl
        have hle : len * (s + 1) ≤ 16777216 := by simpa [Nat.ble_eq] using hle
        obtain ⟨zv, hzr, hzc⟩ := zeroOf_run (P := P) hz w
        have hps : ps.map (fun (i, x) => (i, a.eval x)) = q.toArray := by
          apply Array.ext'
          simpa using partsE_eq hA _ _ hq
        have hf := fillL_eq _ _ _ _ hcs
        simp only [execOp, ho, hps, Instr.buildSlice, Sem.run_bind, run_underlying hu, Result.andThen_ok, sizeOfT_run hs]
        rw [if_neg (show ¬ len * (s + 1) > 2 ^ 24 from Nat.not_lt.2 hle)]
        by_cases h0 : len = 0
        · subst h0
          simp only [zeros] at hf
          simp [Array.range_zero', hf, newRow]
        · rw [if_neg (by intro h; rcases Nat.mul_eq_zero.1 h with h | h <;> omega)]
          simp only [Sem.run_bind, hzr, Result.andThen_ok, Sem.run_pure, hzc]
          have hr := range_zeros z len (by omega)
          rw [hzl] at hr
          rw [hr]
          simp only [hf]
          simp [newRow]
      · cases hv
    · cases hv
  · cases hv

end
end Go.Lg

namespace Go.Lg
open Go.RowKit (Below)

section
variable {P : Program} {B n : Nat} {E : Env} {S : Ents} {o : Oper} {K : Env → Ents → Prop}

/-- make([]T, len, cap). -/
theorem Step.makeSlice {t e : TypeId} {x y : Operand} {len cap : Nat} {kl kc : IntKind} {i : TypeInfo} {z : Value} (hd : dstOk n o.dst = true) (ho : o.op = .makeSlice t x y)
    (hu : P.underlying t = some (.slice e)) (hi : P.info? e = some i) (hz : i.zero = some z) (hs : z.cells.size = i.size) (hs0 : 0 < i.size)
    (hx : opd E x = some (.int kl len)) (hy : opd E y = some (.int kc cap)) (hlc : len ≤ cap) (hb : i.bytes * cap ≤ 281474976710656) (hm : cap ≤ 9223372036854775807)
    (h : ∀ L, B ≤ L → (∀ x ∈ S, x.1 < L) → K (putE E o.dst (.slice (some ⟨L, 0, none⟩) len cap)) ((L, cel (zeros (cellsOf z) cap) e) :: S)) : Step P B n o K E S := by
  refine Step.makes (v := fun L => .slice (some ⟨L, 0, none⟩) len cap) hd (fun a w hS hA => ?_) h
  have h1 := run_make (P := P) w t e i z hu hi hz kl kc (len : Int) (cap : Int) (by omega) (by omega) (by
    have : (i.bytes : Int) * cap = ((i.bytes * cap : Nat) : Int) := by simp
    rw [this]; omega) (by omega)
  have h2 : madeCells z.cells (cap * i.size) = (zeros (cellsOf z) cap).toArray := by
    have hc := cellsOf_eq z
    have hl : (cellsOf z).length = i.size := by rw [← hs, hc]; simp
    have := range_zeros (cellsOf z) cap (by omega)
    rw [hl] at this
    rw [← this, hc]
    rfl
  simp only [execOp, ho, opd_sound hA hx, opd_sound hA hy, Sem.run_bind, h1, Result.andThen_ok, Int.toNat_natCast, h2, Sem.run_pure]

/-- A slice that is nil, or a row of the call's own. -/
def Own (B : Nat) (e : TypeId) (sz : Nat) (v : Value) (k : Nat) (xs : List Value) (es : Ents) : Prop :=
  xs.length = k * sz ∧
  ((v = .slice none 0 0 ∧ k = 0 ∧ es = []) ∨
   ∃ b cap cur, v = .slice (some ⟨b, 0, none⟩) k cap ∧ es = [(b, cel cur e)] ∧ B ≤ b ∧ k ≤ cap ∧ cap ≤ maxLen ∧ cur.length = cap * sz ∧ cur.take (k * sz) = xs)

theorem Own.nil (B : Nat) (e : TypeId) (sz : Nat) : Own B e sz (.slice none 0 0) 0 [] [] := ⟨by simp, .inl ⟨rfl, rfl, rfl⟩⟩

theorem Own.row {e : TypeId} {sz b k : Nat} {xs : List Value} (hB : B ≤ b) (hl : xs.length = k * sz) (hm : k ≤ maxLen) : Own B e sz (.slice (some ⟨b, 0, none⟩) k k) k xs [(b, cel xs e)] :=
  ⟨hl, .inr ⟨b, k, xs, rfl, rfl, hB, Nat.le_refl _, hm, hl, by rw [← hl, List.take_length]⟩⟩

theorem Own.of_new {e : TypeId} {sz : Nat} {v : Value} {k : Nat} {xs : List Value} {w w' : World} {R : Ents} (hS : Sim B R w)
    (h : w'.ownsRow w.heap.size e sz v k xs) (hg : w.grownBy w' none) : ∃ es, Own B e sz v k xs es ∧ Sim B (es ++ R) w' := by
  have hkeep : ∀ x ∈ R, w'.heap[x.1]? = some x.2 := fun x hx => by rw [hg.block x.1 (hS.lt hx) (by simp)]; exact hS.holds x hx
  obtain ⟨hl, h⟩ := h
  rcases h with ⟨rfl, rfl⟩ | ⟨g, cap, cur, rfl, hB, hh, hk, hm, hc, ht⟩
  · exact ⟨[], ⟨hl, .inl ⟨rfl, rfl, rfl⟩⟩, ⟨by simpa using hkeep, by simpa using hS.own, Nat.le_trans hS.base hg.size⟩⟩
  · refine ⟨[(g, cel cur.toList e)], ⟨hl, .inr ⟨g, cap, cur.toList, rfl, rfl, Nat.le_trans hS.base hB, hk, hm, by simpa using hc, by simpa using ht⟩⟩, ?_, ?_, Nat.le_trans hS.base hg.size⟩
    · intro x hx
      simp at hx
      rcases hx with rfl | hx
      · simpa [cel] using hh
      · exact hkeep x hx
    · refine List.pairwise_cons.2 ⟨fun x hx e' => ?_, hS.own⟩
      have := hS.lt hx
      simp only at e'
      omega

theorem below_grown {w w' : World} (hS : B ≤ w.heap.size) (hg : w.grownBy w' none) : Below B w w' :=
  ⟨hg.os, hg.tape, hg.output, hg.size, fun k hk => hg.block k (by omega) (by simp)⟩

/-- What is read of a slice: its elements' cells. -/
def Reads (S : Ents) (sz : Nat) (v : Value) (k : Nat) (xs : List Value) : Prop :=
  xs.length = k * sz ∧
  (((∃ a c, v = .slice a 0 c) ∧ k = 0) ∨ ∃ b o cap l e fz, v = .slice (some ⟨b, o, none⟩) k cap ∧ (b, cel l e fz) ∈ S ∧ o + k * sz ≤ l.length ∧ (l.drop o).take (k * sz) = xs)

theorem Reads.mono {S' : Ents} {sz k : Nat} {v : Value} {xs : List Value} (h : Reads S sz v k xs) (hs : ∀ x ∈ S, x ∈ S') : Reads S' sz v k xs := by
  obtain ⟨hl, h⟩ := h
  refine ⟨hl, h.imp id ?_⟩
  rintro ⟨b, o, cap, l, e, fz, h1, h2, h3, h4⟩
  exact ⟨b, o, cap, l, e, fz, h1, hs _ h2, h3, h4⟩

theorem Reads.nil (S : Ents) (sz : Nat) : Reads S sz (.slice none 0 0) 0 [] := ⟨by simp, .inl ⟨⟨_, _, rfl⟩, rfl⟩⟩

theorem Reads.empty (S : Ents) (sz : Nat) (a : Option Addr) (c : Nat) : Reads S sz (.slice a 0 c) 0 [] := ⟨by simp, .inl ⟨⟨_, _, rfl⟩, rfl⟩⟩

theorem Reads.row {b sz k cap : Nat} {l : List Value} {e : TypeId} {fz : Nat × Nat} (hm : (b, cel l e fz) ∈ S) (hk : k * sz ≤ l.length) : Reads S sz (.slice (some ⟨b, 0, none⟩) k cap) k (l.take (k * sz)) :=
  ⟨by rw [List.length_take]; omega, .inr ⟨b, 0, cap, l, e, fz, rfl, hm, by omega, by simp⟩⟩

theorem Own.reads {e : TypeId} {sz : Nat} {v : Value} {k : Nat} {xs : List Value} {es : Ents} (h : Own B e sz v k xs es) : Reads es sz v k xs := by
  obtain ⟨hl, h⟩ := h
  refine ⟨hl, ?_⟩
  rcases h with ⟨rfl, rfl, rfl⟩ | ⟨b, cap, cur, rfl, rfl, hB, hk, hm, hc, ht⟩
  · exact .inl ⟨⟨_, _, rfl⟩, rfl⟩
  · have : k * sz ≤ cap * sz := Nat.mul_le_mul_right sz hk
    exact .inr ⟨b, 0, cap, cur, e, (0, 0), rfl, by simp, by omega, by simpa using ht⟩

theorem Reads.cells {b o sz k cap : Nat} {xs : List Value} (h : Reads S sz (.slice (some ⟨b, o, none⟩) k cap) k xs) {w : World} (hS : ∀ x ∈ S, w.heap[x.1]? = some x.2) :
    ∀ j u, xs[j]? = some u → w.cell? ((⟨b, o, none⟩ : Addr).add j) = some u := by
  obtain ⟨hl, h⟩ := h
  rcases h with ⟨⟨a', c', h⟩, rfl⟩ | ⟨b', o', cap', l, e, fz, hv, hm, hle, rfl⟩
  · have : xs = [] := List.eq_nil_of_length_eq_zero (by simpa using hl)
    subst this
    intro j u hj
    simp at hj
  · cases hv
    intro j u hj
    rw [Addr.add_lit]
    rw [List.getElem?_take] at hj
    split at hj
    · simp only [World.cell?, hS _ hm]
      simpa using hj
    · cases hj

/-- Whatever the append does with capacities: the row that it leaves. -/
theorem append_core {t ty e : TypeId} {i : TypeInfo} {z : Value} (ht : P.underlying t = some (.slice e)) (hi : P.info? e = some i) (hz : i.zero = some z) (hzs : z.cells.size = i.size) (hsz : 0 < i.size)
    {v x : Value} {k m : Nat} {xs news : List Value} {es R : Ents} {w : World} (hS : Sim B (es ++ R) w) (hown : Own B e i.size v k xs es) (hx : Reads (es ++ R) i.size x m news)
    (h1 : news.all (·.oneCell') = true) (hbytes : (k + m) * i.bytes ≤ 140737488355328) (h63 : k + m ≤ maxLen) :
    ∃ v' w' es', (Builtin.append_ #[t, t] ty #[v, x]).run P w = .ok v' w' ∧ Own B e i.size v' (k + m) (xs ++ news) es' ∧ Sim B (es' ++ R) w' ∧ Below B w w' ∧ (v' = .slice none 0 0 ↔ v = .slice none 0 0 ∧ m = 0) := by
  have hR : Sim B R w := hS.sublist (List.sublist_append_right es R)
  have hone : ∀ u ∈ news, u.oneCell' = true := fun u hu => List.all_eq_true.1 h1 u hu
  have hown' := hown
  obtain ⟨hl, hv⟩ := hown'
  -- nothing is appended: a nil source
  have hx' := hx
  obtain ⟨hnl, hxv⟩ := hx'
  rcases hxv with ⟨⟨a', c', rfl⟩, rfl⟩ | ⟨b, o', cap, l, e', fz, rfl, hm, hle, hnews⟩
  · have hn : news = [] := List.eq_nil_of_length_eq_zero (by simpa using hnl)
    subst hn
    have hrun : (Builtin.append_ #[t, t] ty #[v, .slice a' 0 c']).run P w = .ok v w := by
      rcases hv with ⟨rfl, rfl, rfl⟩ | ⟨b, cap, cur, rfl, rfl, hB, hk, hm, hc, htk⟩ <;> cases a'
      · simp [Builtin.append_, run_underlying ht, sizeOf, typeInfo, hi, Builtin.lenOf, Builtin.firstCells]
      · simp [Builtin.append_, run_underlying ht, sizeOf, typeInfo, hi, Builtin.lenOf, Builtin.firstCells, loadCells, loadCellsFrom]
      · simp [Builtin.append_, run_underlying ht, sizeOf, typeInfo, hi, Builtin.lenOf, Builtin.firstCells, hk, storeCells]
      · simp [Builtin.append_, run_underlying ht, sizeOf, typeInfo, hi, Builtin.lenOf, Builtin.firstCells, hk, storeCells, loadCells, loadCellsFrom]
    refine ⟨v, w, es, hrun, by simpa using hown, hS, Below.refl B w, by simp⟩
  · have hcells := hx.cells hS.holds
    rcases hv with ⟨rfl, rfl, rfl⟩ | ⟨g, gcap, cur, rfl, rfl, hB, hk, hmx, hc, htk⟩
    · have hxs : xs = [] := List.eq_nil_of_length_eq_zero (by simpa using hl)
      subst hxs
      obtain ⟨v', w', hrun, ho, hg, hn⟩ := run_append_own (P := P) w w.heap.size t ty e i z i.size i.bytes ht hi hz rfl rfl hzs hsz (.slice none 0 0) 0 [] (World.ownsRow_nil w _ e i.size) ⟨b, o', none⟩ m cap news hnl hcells hone h63 hbytes (Nat.le_refl _)
      obtain ⟨es', h1, h2⟩ := Own.of_new hR ho hg
      exact ⟨v', w', es', hrun, h1, h2, below_grown hR.base hg, hn⟩
    · by_cases hroom : k + m ≤ gcap
      · have hgb : w.heap[g]? = some (.cells cur.toArray e (0, 0)) := hS.holds (g, cel cur e) (by simp)
        have hfit : k * i.size + news.length ≤ cur.toArray.size := by
          have : (k + m) * i.size ≤ gcap * i.size := Nat.mul_le_mul_right _ hroom
          rw [hnl, List.size_toArray, hc, ← Nat.add_mul]; exact this
        have hrun := run_append_room (P := P) w t ty e i ht hi g k gcap cur.toArray hgb ⟨b, o', none⟩ m cap news hnl hcells hone hroom hfit
        have hfit' : k * i.size + news.length ≤ cur.length := by simpa using hfit
        refine ⟨_, _, [(g, cel (cur.take (k * i.size) ++ news ++ cur.drop (k * i.size + news.length)) e)], hrun, ?_, ?_, ?_, by simp⟩
        · refine ⟨by rw [List.length_append, hl, hnl, Nat.add_mul], .inr ⟨g, gcap, _, rfl, rfl, hB, hroom, hmx, ?_, ?_⟩⟩
          · simp only [List.length_append, List.length_take, List.length_drop]; omega
          · have : (k + m) * i.size = (cur.take (k * i.size) ++ news).length := by simp only [List.length_append, List.length_take, hnl, Nat.add_mul]; omega
            rw [this, List.take_left, htk]
        · refine Sim.turn (i := 0) (b := g) hS rfl rfl hB ?_ (fun q hq => setRow_other w g q _ hq) (by simp)
          simpa using setRow_heap w g _ _ e (0, 0) hgb
        · exact below_setRow hB _
      · have hold : ∀ j u, xs[j]? = some u → w.cell? ((⟨g, 0, none⟩ : Addr).add j) = some u :=
          ((hown.reads).mono (S' := [(g, cel cur e)] ++ R) (fun x hx => by simp at hx; simp [hx])).cells hS.holds
        obtain ⟨v', w', hrun, ho, hg⟩ := run_append_arg_grows (P := P) w t ty e i z i.size i.bytes ht hi hz rfl rfl hzs hsz ⟨g, 0, none⟩ k gcap xs hl hold ⟨b, o', none⟩ m cap news hnl hcells (by omega) h63 hbytes
        obtain ⟨es', h1, h2⟩ := Own.of_new hR ho hg
        refine ⟨v', w', es', hrun, h1, h2, below_grown hR.base hg, ?_⟩
        constructor
        · intro hv'
          subst hv'
          rcases h1.2 with ⟨_, h, _⟩ | ⟨_, _, _, h, _⟩
          · omega
          · cases h
        · rintro ⟨h, _⟩; cases h

theorem Step.append {t e : TypeId} {i : TypeInfo} {z : Value} {x y : Operand} {v u : Value} {k m : Nat} {xs news : List Value} {es R : Ents}
    (hd : dstOk n o.dst = true) (ho : o.op = .call ⟨.builtin .append, #[x, y], #[t, t]⟩)
    (ht : P.underlying t = some (.slice e)) (hi : P.info? e = some i) (hz : i.zero = some z) (hzs : z.cells.size = i.size) (hsz : 0 < i.size)
    (hx : opd E x = some v) (hy : opd E y = some u) (hSR : ∀ w, Sim B S w → Sim B (es ++ R) w) (hown : Own B e i.size v k xs es) (hr : Reads (es ++ R) i.size u m news)
    (h1 : news.all (·.oneCell') = true) (hbytes : (k + m) * i.bytes ≤ 140737488355328) (h63 : k + m ≤ maxLen)
    (h : ∀ v' es', Own B e i.size v' (k + m) (xs ++ news) es' → (v' = .slice none 0 0 ↔ v = .slice none 0 0 ∧ m = 0) → K (putE E o.dst v') (es' ++ R)) : Step P B n o K E S := by
  intro a w hS hA
  unfold Oper.wp
  obtain ⟨v', w', es', hrun, hown', hS', hb, hn⟩ := append_core (P := P) (ty := o.type) ht hi hz hzs hsz (hSR w hS) hown hr h1 hbytes h63
  have hr : (execOp a.eval o).run P w = .ok (.value v') w' := by
    simp [execOp, ho, resolve, invoke, builtin, opd_sound hA hx, opd_sound hA hy, hrun]
  rw [hr]
  exact ⟨hb, _, _, hS', hA.putE hd _, h v' es' hown' hn⟩

end
end Go.Lg
