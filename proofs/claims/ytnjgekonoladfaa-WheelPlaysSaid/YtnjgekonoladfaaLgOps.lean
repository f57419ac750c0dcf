/- A layer over the weakest preconditions of the model: what is known of memory and of the slots, told by rules. -/
import Derived.Test.YtnjgekonoladfaaLgEv
namespace Go.Lg
open Go.RowKit (Below)

theorem Oper.upon_monoQ {P : Program} {o : Oper} {a : Act} {K K' : Act → World → Prop} {Q Q' : Exit → Act → World → Prop} (hk : ∀ a w, K a w → K' a w) (hq : ∀ e a w, Q e a w → Q' e a w)
    {r : Result Next} (hh : o.upon P a K Q r) : o.upon P a K' Q' r := by
  cases r with
  | ok n w' =>
    cases n <;> simp only [Oper.upon] at hh ⊢ <;>
      first
        | exact hk _ _ hh
        | exact Calls.mono hh (fun e w'' he => by
            cases e with
            | returned v => exact hk _ _ he
            | panicked c => exact hq _ _ _ he
            | outgrown => obtain ⟨x, y, z⟩ := he; exact ⟨x, y, hq _ _ _ z⟩)
        | exact Rows.mono hh (fun _ _ he => hk _ _ he)
  | halt x w' => cases x <;> simp only [Oper.upon] at hh ⊢ <;> first | exact hq _ _ _ hh | exact hh

theorem wpList_monoQ {P : Program} {ops : Array Oper} {Q Q' : Exit → Act → World → Prop} (hq : ∀ e a w, Q e a w → Q' e a w) :
    ∀ (l : List Oper) (a : Act) (w : World), wpList P ops Q l a w → wpList P ops Q' l a w := by
  intro l
  induction l with
  | nil => intro a w h; exact hq _ _ _ h
  | cons o l ih =>
    intro a w h
    unfold wpList at h ⊢
    split
    · rename_i hw
      rw [if_pos hw] at h
      rcases h with h | ⟨h1, x, y, h2⟩
      · exact .inl (Oper.upon_monoQ ih hq h)
      · exact .inr ⟨h1, x, y, hq _ _ _ h2⟩
    · rename_i hw
      rw [if_neg hw] at h
      exact ih _ _ h

/-- A list of operations. -/
def OWp (P : Program) (B n : Nat) (ops : Array Oper) (l : List Oper) (Q : Exit → Env → Ents → Prop) (E : Env) (S : Ents) : Prop :=
  ∀ a w, Sim B S w → Agree E n a → wpList P ops (Post B n Q w) l a w

def callable (P : Program) (f : FuncId) : Bool :=
  match P.funcs[f]? with
  | some fn => (match fn.body with | some _ => true | none => false) && !(fn.name == "runtime.NumGoroutine")
  | none => false

theorem callable_run {P : Program} {f : FuncId} (h : callable P f = true) (args : Array Value) (w : World) : (callFunc f args).run P w = .ok (.enter f args) w := by
  unfold callable at h
  split at h
  · rename_i fn hfn
    rw [Bool.and_eq_true] at h
    obtain ⟨h1, h2⟩ := h
    have h2' : (fn.name == "runtime.NumGoroutine") = false := by simpa using h2
    simp only [callFunc, Sem.run_bind, run_program, Result.andThen_ok, hfn, h2']
    cases hb : fn.body with
    | none => simp [hb] at h1
    | some c => simp
  · cases h

section
variable {P : Program} {B n : Nat} {ops : Array Oper} {Q : Exit → Env → Ents → Prop} {E : Env} {S : Ents} {o : Oper} {rest : List Oper}

theorem OWp.nil (h : Q .normal E S) : OWp P B n ops [] Q E S :=
  fun _ w hS hA => ⟨trivial, E, S, Below.refl B w, hS, hA, h⟩

theorem Wp.region {id : Nat} (h : OWp P B n ops ops.toList Q E S) : Wp P B n (.region id ops false) Q E S :=
  fun a w hS hA => wp_region_list (h a w hS hA)

/-- Does an operation's guard let it run? -/
def guardB (ops : List Oper) (E : Env) : Option (Nat × Bool) → Option Bool
  | none => some true
  | some (j, want) => match ops[j]? with
    | some o => match o.dst with
      | some d => match E.get d with
        | some (.bool true) => some want
        | some (.bool false) => some (!want)
        | some (.tuple _) => some false
        | _ => none
      | none => some false
    | none => some false

theorem guardB_sound {E : Env} {n : Nat} {a : Act} (hA : Agree E n a) {ops : Array Oper} {o : Oper} {b : Bool} (h : guardB ops.toList E o.guard = some b) :
    Region.wanted o (yielded ops a.tmps) = b := by
  unfold Region.wanted
  cases hg : o.guard with
  | none => rw [hg] at h; simp [guardB] at h; simp [← h]
  | some g =>
    obtain ⟨j, want⟩ := g
    rw [hg] at h
    simp only [guardB] at h
    simp only [yielded]
    cases hj : ops[j]? with
    | none => simp [hj] at h; simp [← h]
    | some o' =>
      have hj' : ops.toList[j]? = some o' := by simpa using hj
      simp only [hj'] at h
      simp only [Option.bind_some]
      cases hd : o'.dst with
      | none => simp [hd] at h; simp [← h]
      | some d =>
        simp only [hd] at h
        simp only [Option.bind_some]
        split at h
        · rename_i he; rw [hA.reads d _ he]; obtain rfl := Option.some.inj h; clear hg h; cases want <;> rfl
        · rename_i he; rw [hA.reads d _ he]; obtain rfl := Option.some.inj h; clear hg h; cases want <;> rfl
        · rename_i he; rw [hA.reads d _ he]; obtain rfl := Option.some.inj h; rfl
        · cases h

/-- What an operation leaves in its slot. -/
def putE (E : Env) (d : Option Tmp) (v : Value) : Env :=
  match d with
  | some k => (k, v) :: E
  | none => E
def dstOk (n : Nat) (d : Option Tmp) : Bool :=
  match d with
  | some k => Nat.blt k n
  | none => true

theorem Agree.putE {a : Act} (hA : Agree E n a) {d : Option Tmp} (hd : dstOk n d = true) (v : Value) : Agree (putE E d v) n (a.put d v) := by
  cases d with
  | none => exact hA
  | some k => exact hA.put k v (by simpa [dstOk, Nat.blt_eq] using hd)

theorem OWp.skip (hg : guardB ops.toList E o.guard = some false) (hd : dstOk n o.dst = true) (h : OWp P B n ops rest Q (putE E o.dst undef) S) :
    OWp P B n ops (o :: rest) Q E S := by
  intro a w hS hA
  refine wpList_skip (guardB_sound hA hg) ?_
  exact h _ w hS (hA.putE hd _)

/-- One operation: what it leaves in memory and slots. -/
def Step (P : Program) (B n : Nat) (o : Oper) (K : Env → Ents → Prop) (E : Env) (S : Ents) : Prop :=
  ∀ a w, Sim B S w → Agree E n a → o.wp P a w (fun a' w' => Below B w w' ∧ ∃ E' S', Sim B S' w' ∧ Agree E' n a' ∧ K E' S') (fun _ _ _ => False)

/-- One operation that gives a value and leaves memory, wherever memory has what F tells. -/
def Gives (P : Program) (n : Nat) (F : Ents) (E : Env) (o : Oper) (v : Value) : Prop :=
  ∀ a w, (∀ x ∈ F, w.heap[x.1]? = some x.2) → Agree E n a → (execOp a.eval o).run P w = .ok (.value v) w

theorem OWp.step (hg : guardB ops.toList E o.guard = some true) (h : Step P B n o (OWp P B n ops rest Q) E S) : OWp P B n ops (o :: rest) Q E S := by
  intro a w hS hA
  unfold wpList
  rw [if_pos (guardB_sound hA hg)]
  refine .inl (Oper.upon_monoQ ?_ ?_ (h a w hS hA))
  · rintro a' w' ⟨hb, E', S', hs, ha, q⟩
    exact wpList_monoQ (fun _ _ _ => Post.later hb) _ _ _ (q a' w' hs ha)
  · intro _ _ _ h; exact h.elim

theorem OWp.gives {F : Ents} {v : Value} (hg : guardB ops.toList E o.guard = some true) (hd : dstOk n o.dst = true) (hv : Gives P n F E o v) (hF : ∀ x ∈ F, x ∈ S)
    (h : OWp P B n ops rest Q (putE E o.dst v) S) : OWp P B n ops (o :: rest) Q E S := by
  refine OWp.step hg fun a w hS hA => ?_
  unfold Oper.wp
  rw [hv a w (fun x hx => hS.holds x (hF x hx)) hA]
  exact ⟨Below.refl B w, _, S, hS, hA.putE hd v, h⟩

theorem Gives.ev {v : Value} (hv : ev P E o.op = some v) : Gives P n [] E o v := fun _ w _ hA => ev_sound hA hv w

theorem OWp.pure {v : Value} (hg : guardB ops.toList E o.guard = some true) (hd : dstOk n o.dst = true) (hv : ev P E o.op = some v)
    (h : OWp P B n ops rest Q (putE E o.dst v) S) : OWp P B n ops (o :: rest) Q E S := by
  exact OWp.gives hg hd (Gives.ev hv) (by simp) h

/-- Operations that touch no memory, as far as they go. -/
def evs (P : Program) (n : Nat) (ops : List Oper) : Nat → List Oper → Env → Option (List Oper × Env)
  | 0, l, E => some (l, E)
  | k + 1, o :: l, E => match guardB ops E o.guard, dstOk n o.dst with
    | some true, true => match ev P E o.op with
      | some v => evs P n ops k l (putE E o.dst v)
      | none => none
    | some false, true => evs P n ops k l (putE E o.dst undef)
    | _, _ => none
  | _ + 1, [], _ => none

theorem OWp.evs (k : Nat) {l l' : List Oper} {E' : Env} (hv : evs P n ops.toList k l E = some (l', E')) (h : OWp P B n ops l' Q E' S) :
    OWp P B n ops l Q E S := by
  induction k generalizing l E with
  | zero => simp [Lg.evs] at hv; obtain ⟨rfl, rfl⟩ := hv; exact h
  | succ k ih =>
    cases l with
    | nil => simp [Lg.evs] at hv
    | cons o l =>
      simp only [Lg.evs] at hv
      split at hv
      · rename_i hg hd
        split at hv
        · rename_i v he; exact OWp.pure hg hd he (ih hv)
        · cases hv
      · rename_i hg hd; exact OWp.skip hg hd (ih hv)
      · cases hv

/-- A slot whose bool is a term: parted. -/
theorem OWp.part {l : List Oper} (d : Nat) {b : Bool} (hd : E.get d = some (.bool b)) (h1 : b = true → OWp P B n ops l Q ((d, .bool true) :: E) S)
    (h2 : b = false → OWp P B n ops l Q ((d, .bool false) :: E) S) : OWp P B n ops l Q E S := by
  intro a w hS hA
  cases b with
  | true =>
    refine h1 rfl a w hS ⟨fun k v hk => ?_, hA.size, hA.defers⟩
    rw [Env.get_cons] at hk
    split at hk
    · rename_i e; subst e; rw [← hk]; exact hA.reads _ _ hd
    · exact hA.reads k v hk
  | false =>
    refine h2 rfl a w hS ⟨fun k v hk => ?_, hA.size, hA.defers⟩
    rw [Env.get_cons] at hk
    split at hk
    · rename_i e; subst e; rw [← hk]; exact hA.reads _ _ hd
    · exact hA.reads k v hk

theorem OWp.weaken {l : List Oper} {E' : Env} {S' : Ents} (hE : Env.Sub E' E) (hS : ∀ w, Sim B S w → Sim B S' w) (h : OWp P B n ops l Q E' S') : OWp P B n ops l Q E S :=
  fun a w hs hA => h a w (hS w hs) (hA.sub hE)

/-- A call. -/
theorem Step.call {K : Env → Ents → Prop} {c : Call} {f : FuncId} {cap : Array Value} {x : Operand} {vs : List Value} (hd : dstOk n o.dst = true)
    (ho : o.op = .call c) (hc : c.callee = .value x) (hx : opd E x = some (.func (.func f) #[] cap)) (hvs : opds E c.args.toList = some vs)
    (hbody : callable P f = true) (h : CallWp P B f (vs ++ cap.toList).toArray (fun v S' => K (putE E o.dst v) S') S) : Step P B n o K E S := by
  intro a w hS hA
  unfold Oper.wp
  have hargs : c.args.map a.eval = vs.toArray := by
    apply Array.ext'
    simpa using opds_sound hA hvs
  have e : (execOp a.eval o).run P w = .ok (.enter f (vs ++ cap.toList).toArray) w := by
    have hh : execOp a.eval o = callFunc f (vs.toArray ++ cap) := by
      simp [execOp, ho, resolve, hc, opd_sound hA hx, Deferred.ofValue, hargs, invoke]
    rw [hh, callable_run hbody]
    congr 2
    apply Array.ext'
    simp
  rw [e]
  simp only [Oper.upon]
  refine (h w hS).mono ?_
  rintro e w' ⟨v, S', rfl, hb, hs, q⟩
  exact ⟨hb, _, S', hs, hA.putE hd v, q⟩
end
end Go.Lg
