/- A layer over the weakest preconditions of the model: what is known of memory and of the slots, told by rules. -/
import Derived.Test.YtlfhhkdjahcglaaGreatDoorLgM2x52c3
import Derived.RangeFuncRecord
import Derived.RangeFuncLeaves
import Derived.RangeFuncIn
import Derived.RangeFuncOwn
import Derived.TacticsIn
import Derived.MapKept
/- A range over a function: the walk of a round's body, the call of yield, and the statement. -/
namespace Go.Lg
open Go.RowKit (Below)

structure AgreeM (mk : List Deferred) (E : Env) (n : Nat) (a : Act) : Prop where
  reads : ∀ d v, Env.get E d = some v → a.tmps[d]? = some v
  size : a.tmps.size = n
  defers : a.defers = mk
theorem AgreeM.strip {mk : List Deferred} {E : Env} {n : Nat} {a : Act} (h : AgreeM mk E n a) : Agree E n { a with defers := [] } := ⟨h.reads, h.size, rfl⟩
theorem AgreeM.sub {mk : List Deferred} {E E' : Env} {n : Nat} {a : Act} (h : AgreeM mk E n a) (hs : Env.Sub E' E) : AgreeM mk E' n a := ⟨fun d v hd => h.reads d v (hs d v hd), h.size, h.defers⟩

abbrev GQ := List Deferred → Exit → Env → Ents → Prop
def fin (ro : Option Nat) : Fence := { Fence.wide with round := ro }
def PostG (B n : Nat) (Q : GQ) (w : World) : Exit → Act → World → Prop := fun e a w' =>
  (match e with | .panic _ => False | .outgrown => False | _ => True) ∧ ∃ mk E S, Below B w w' ∧ Sim B S w' ∧ AgreeM mk E n a ∧ Q mk e E S
/-- Code, in a round's frame or not, behind marks or not. -/
def WpG (ro : Option Nat) (mk : List Deferred) (P : Program) (B n : Nat) (c : Code) (Q : GQ) (E : Env) (S : Ents) : Prop :=
  ∀ d a w, Sim B S w → AgreeM mk E n a → c.wpIn (fin ro) d P (PostG B n Q w) a w
def OWpG (ro : Option Nat) (mk : List Deferred) (P : Program) (B n : Nat) (ops : Array Oper) (l : List Oper) (Q : GQ) (E : Env) (S : Ents) : Prop :=
  ∀ d a w, Sim B S w → AgreeM mk E n a → wpListIn (fin ro) d P ops (PostG B n Q w) l a w

section
variable {ro : Option Nat} {mk : List Deferred} {P : Program} {B n : Nat} {Q : GQ} {E : Env} {S : Ents} {ops : Array Oper}

theorem PostG.later {w w' : World} (hb : Below B w w') {e : Exit} {a : Act} {w'' : World} (h : PostG B n Q w' e a w'') : PostG B n Q w e a w'' := by
  obtain ⟨hp, mk', E, S, hb', hs, ha, q⟩ := h
  exact ⟨hp, mk', E, S, hb.trans hb', hs, ha, q⟩
theorem WpG.skip (h : Q mk .normal E S) : WpG ro mk P B n .skip Q E S :=
  fun _ _ w hS hA => wpIn_skip ⟨trivial, mk, E, S, Below.refl B w, hS, hA, h⟩
theorem WpG.ret (h : Q mk .ret E S) : WpG ro mk P B n .ret Q E S :=
  fun _ _ w hS hA => wpIn_ret ⟨trivial, mk, E, S, Below.refl B w, hS, hA, h⟩
theorem WpG.exit {id : Nat} (h : Q mk (.exit id) E S) : WpG ro mk P B n (.exit id) Q E S :=
  fun _ _ w hS hA => wpIn_exit ⟨trivial, mk, E, S, Below.refl B w, hS, hA, h⟩
def thenG (K : List Deferred → Env → Ents → Prop) (Q : GQ) : GQ
  | mk, .normal, E, S => K mk E S
  | mk, e, E, S => Q mk e E S
theorem WpG.seq {x y : Code} (h : WpG ro mk P B n x (thenG (fun mk' => WpG ro mk' P B n y Q) Q) E S) : WpG ro mk P B n (.seq x y) Q E S := by
  intro d a w hS hA
  refine wpIn_seq (wpIn_mono (h d a w hS hA) ?_)
  intro e a' w' hp
  obtain ⟨hp, mk', E', S', hb, hs, ha, q⟩ := hp
  cases e with
  | normal => exact wpIn_mono (q d a' w' hs ha) fun _ _ _ => PostG.later hb
  | exit id => exact ⟨hp, mk', E', S', hb, hs, ha, q⟩
  | goto l => exact ⟨hp, mk', E', S', hb, hs, ha, q⟩
  | ret => exact ⟨hp, mk', E', S', hb, hs, ha, q⟩
  | panic ch => exact ⟨hp, mk', E', S', hb, hs, ha, q⟩
  | outgrown => exact ⟨hp, mk', E', S', hb, hs, ha, q⟩
theorem WpG.cond {c : Operand} {x y : Code} {t : Bool} (hc : opd E c = some (.bool t))
    (h1 : t = true → WpG ro mk P B n x Q E S) (h2 : t = false → WpG ro mk P B n y Q E S) : WpG ro mk P B n (.cond c x y) Q E S := by
  intro d a w hS hA
  have he : a.eval c = .bool t := by
    have h := opd_sound hA.strip hc
    cases c <;> exact h
  refine wpIn_cond he ?_
  cases t with
  | true => exact h1 rfl d a w hS hA
  | false => exact h2 rfl d a w hS hA
def blockG (id : Nat) (Q : GQ) : GQ
  | mk, .exit k, E, S => if k = id then Q mk .normal E S else Q mk (.exit k) E S
  | mk, e, E, S => Q mk e E S
theorem WpG.block {id : Nat} {c : Code} (h : WpG ro mk P B n c (blockG id Q) E S) : WpG ro mk P B n (.block id c) Q E S := by
  intro d a w hS hA
  refine wpIn_block (wpIn_mono (h d a w hS hA) ?_)
  intro e a' w' hp
  obtain ⟨hp, mk', E', S', hb, hs, ha, q⟩ := hp
  cases e with
  | exit k =>
    simp only [blockG] at q
    simp only [Exit.inBlock]
    split
    · rename_i e; rw [if_pos e] at q; exact ⟨trivial, mk', E', S', hb, hs, ha, q⟩
    · rename_i e; rw [if_neg e] at q; exact ⟨trivial, mk', E', S', hb, hs, ha, q⟩
  | normal => exact ⟨hp, mk', E', S', hb, hs, ha, q⟩
  | goto l => exact ⟨hp, mk', E', S', hb, hs, ha, q⟩
  | ret => exact ⟨hp, mk', E', S', hb, hs, ha, q⟩
  | panic ch => exact ⟨hp, mk', E', S', hb, hs, ha, q⟩
  | outgrown => exact ⟨hp, mk', E', S', hb, hs, ha, q⟩
theorem WpG.weaken {c : Code} {E' : Env} {S' : Ents} (hE : Env.Sub E' E) (hS : ∀ w, Sim B S w → Sim B S' w) (h : WpG ro mk P B n c Q E' S') : WpG ro mk P B n c Q E S :=
  fun d a w hs hA => h d a w (hS w hs) (hA.sub hE)

theorem WpG.mono {c : Code} {Q' : GQ} (h : WpG ro mk P B n c Q E S) (hq : ∀ mk e E S, Q mk e E S → Q' mk e E S) : WpG ro mk P B n c Q' E S :=
  fun d a w hS hA => wpIn_mono (h d a w hS hA) fun _ _ _ ⟨hp, mk', E', S', hb, hs, ha, q⟩ => ⟨hp, mk', E', S', hb, hs, ha, hq _ _ _ _ q⟩
theorem WpG.seqS {x y : Code} {α : Type} (e : α → Env) (s : α → Ents) (R : α → Prop)
    (h1 : WpG ro mk P B n x (thenG (fun mk' E' S' => ∃ a, R a ∧ Env.Sub (e a) E' ∧ S'.Perm (s a) ∧ mk' = mk) Q) E S) (h2 : ∀ a, R a → WpG ro mk P B n y Q (e a) (s a)) : WpG ro mk P B n (.seq x y) Q E S := by
  refine WpG.seq (WpG.mono h1 ?_)
  intro mk' ex E' S' q
  cases ex with
  | normal =>
    obtain ⟨a, hR, hsub, hsp, rfl⟩ := q
    exact WpG.weaken hsub (fun _ h => h.perm hsp) (h2 a hR)
  | exit _ => exact q
  | goto _ => exact q
  | ret => exact q
  | panic _ => exact q
  | outgrown => exact q
/-- The plain walk is a walk outside of rounds. -/
def noOut (Q : Exit → Env → Ents → Prop) : Exit → Env → Ents → Prop
  | .outgrown, _, _ => False
  | e, E, S => Q e E S
theorem WpG.ofWp {c : Code} (h : Wp P B n c (noOut (Q [])) E S) : WpG none [] P B n c Q E S := by
  intro d a w hS hA
  refine wpIn_mono (wpIn_wide.2 (h a w hS ⟨hA.reads, hA.size, hA.defers⟩)) ?_
  rintro e a' w' ⟨hp, E', S', hb, hs, ha, q⟩
  refine ⟨?_, [], E', S', hb, hs, ⟨ha.reads, ha.size, ha.defers⟩, ?_⟩
  · cases e <;> first | exact hp | exact q
  · cases e <;> first | exact q | exact q.elim

theorem Wp.ofG {c : Code} {Q : Exit → Env → Ents → Prop} (h : WpG none [] P B n c (fun mk e E S => mk = [] ∧ Q e E S) E S) : Wp P B n c Q E S := by
  intro a w hS hA
  refine (wpIn_wide (n := 0)).1 (wpIn_mono (h 0 a w hS ⟨hA.reads, hA.size, hA.defers⟩) ?_)
  rintro e a' w' ⟨hp, mk, E', S', hb, hs, ha, rfl, q⟩
  refine ⟨?_, E', S', hb, hs, ⟨ha.reads, ha.size, ha.defers⟩, q⟩
  cases e with
  | panic _ => exact hp
  | _ => trivial
theorem rows_wide {d : Nat} {row : String} {args : Array Value} {w : World} {R : Value → World → Prop} (h : Rows P row args w R) : RowsIn (fin ro) d P row args w R :=
  fun c cs _ => let ⟨v, w', r, s⟩ := h c cs; ⟨v, w', r, (stepsIn_wide (P := P)).2 s⟩
theorem calls_in {d : Nat} {f : FuncId} {args : Array Value} {w : World} {R : Ending → World → Prop} (h : Calls P f args w R) : CallsIn (fin ro) d P f args w R :=
  (callsIn_wide (n := d)).2 h
def noDefer (o : Oper) : Bool := match o.op with | .defer _ => false | _ => true
theorem eval_defers (a : Act) (ds : List Deferred) : ({ a with defers := ds } : Act).eval = a.eval := funext fun x => by cases x <;> rfl
theorem put_defers (a : Act) (ds : List Deferred) (dst : Option Tmp) (v : Value) : ({ a with defers := ds } : Act).put dst v = { (a.put dst v) with defers := ds } := by cases dst <;> rfl
theorem put_defers' (a : Act) (dst : Option Tmp) (v : Value) : (a.put dst v).defers = a.defers := by cases dst <;> rfl
theorem uponIn_mono {F : Fence} {d : Nat} {o : Oper} {a : Act} {K K' : Act → World → Prop} {Q0 Q1 : Exit → Act → World → Prop} (hk : ∀ a w, K a w → K' a w) (hq : ∀ e a w, Q0 e a w → Q1 e a w)
    {r : Result Next} (h : o.uponIn F d P a K Q0 r) : o.uponIn F d P a K' Q1 r := by
  cases r with
  | ok x w' =>
    cases x <;> simp only [Oper.uponIn] at h ⊢ <;>
      first
        | exact hk _ _ h
        | exact h
        | exact ⟨h.1, CallsIn.mono h.2 (fun e w'' he => by
            cases e with
            | returned v => exact hk _ _ he
            | panicked c => exact hq _ _ _ he
            | outgrown => obtain ⟨x, y, z⟩ := he; exact ⟨x, y, hq _ _ _ z⟩)⟩
        | exact ⟨h.1, RoundIn.mono h.2 (fun e w'' he => by
            cases e with
            | returned v => exact hk _ _ he
            | panicked c => exact hq _ _ _ he
            | outgrown => obtain ⟨x, y, z⟩ := he; exact ⟨x, y, hq _ _ _ z⟩)⟩
        | exact ⟨h.1, RowsIn.mono h.2 (fun _ _ he => hk _ _ he)⟩
  | halt x w' => cases x <;> simp only [Oper.uponIn] at h ⊢ <;> first | exact hq _ _ _ h | exact h
theorem wpListIn_mono' {F : Fence} {d : Nat} {Q0 Q1 : Exit → Act → World → Prop} (hq : ∀ e a w, Q0 e a w → Q1 e a w) : ∀ (l : List Oper) (a : Act) (w : World), wpListIn F d P ops Q0 l a w → wpListIn F d P ops Q1 l a w := by
  intro l
  induction l with
  | nil => intro a w h; exact hq _ _ _ h
  | cons o l ih =>
    intro a w h
    unfold wpListIn at h ⊢
    split
    · rename_i hw
      rw [if_pos hw] at h
      exact ⟨h.1, uponIn_mono ih hq h.2⟩
    · rename_i hw
      rw [if_neg hw] at h
      exact ⟨h.1, ih _ _ h.2⟩
theorem OWp.monoQ {l : List Oper} {Q Q' : Exit → Env → Ents → Prop} (h : OWp P B n ops l Q E S) (hq : ∀ e E S, Q e E S → Q' e E S) : OWp P B n ops l Q' E S :=
  fun a w hS hA => wpList_monoQ (fun _ _ _ => Post.mono hq) _ _ _ (h a w hS hA)
/-- A list of plain operations, walked outside, is walked in a round and behind marks too. -/
theorem list_in {Q0 : Exit → Act → World → Prop} {Q1 : Exit → Act → World → Prop} {d : Nat} {post : List Oper} (hQ : ¬ LetsOut Q0)
    (hn : ∀ a w, Q0 .normal a w → wpListIn (fin ro) d P ops Q1 post { a with defers := a.defers ++ mk } w)
    (hp : ∀ ch a w, Q0 (.panic ch) a w → Q1 (.panic ch) { a with defers := a.defers ++ mk } w) :
    ∀ (l : List Oper), l.all noDefer = true → ∀ a w, wpList P ops Q0 l a w → wpListIn (fin ro) d P ops Q1 (l ++ post) { a with defers := a.defers ++ mk } w := by
  intro l
  induction l with
  | nil => intro _ a w h; exact hn a w h
  | cons o l ih =>
    intro hc a w h
    rw [List.all_cons, Bool.and_eq_true] at hc
    have ih := ih hc.2
    have hsem : ∀ c, o.op ≠ .defer c := fun c e => by have := hc.1; unfold noDefer at this; rw [e] at this; cases this
    rw [List.cons_append]
    unfold wpList at h
    unfold wpListIn
    simp only
    split
    · rename_i hw
      rw [if_pos hw] at h
      rcases h with h | ⟨_, h⟩
      · refine ⟨fun _ _ => trivial, ?_⟩
        rw [eval_defers, Oper.semAt_eq _ _ _ hsem]
        unfold Oper.wp at h
        have next : ∀ (v : Value) (w' : World), wpList P ops Q0 l (a.put o.dst v) w' → wpListIn (fin ro) d P ops Q1 (l ++ post) (({ a with defers := a.defers ++ mk } : Act).put o.dst v) w' := by
          intro v w' h
          have := ih _ _ h
          rw [put_defers'] at this
          rw [put_defers]
          exact this
        generalize (execOp a.eval o).run P w = r at h ⊢
        cases r with
        | ok x w' =>
          cases x with
          | value v => exact next v w' h
          | skip => exact next undef w' h
          | defer dd =>
            have := ih _ _ h
            rw [put_defers', put_defers] at this
            show wpListIn (fin ro) d P ops Q1 (l ++ post) (({ a with defers := dd :: (a.defers ++ mk) } : Act).put o.dst undef) w'
            rw [put_defers]
            exact this
          | enter f args =>
            refine ⟨fun h => by simp [fin, Fence.wide] at h, calls_in (Calls.mono h ?_)⟩
            intro e w'' he
            cases e with
            | returned v => exact next v w'' he
            | panicked c => exact hp _ _ _ he
            | outgrown => exact absurd he hQ
          | row row args => exact ⟨fun h => by simp [fin, Fence.wide] at h, rows_wide (Rows.mono h fun v w'' hv => next v w'' hv)⟩
          | round => exact h.elim
          | _ => exact h.elim
        | halt x w' => cases x <;> first | exact hp _ _ _ h | exact h.elim
      · exact absurd h hQ
    · rename_i hw
      rw [if_neg hw] at h
      refine ⟨fun _ _ => trivial, ?_⟩
      have := ih _ _ h
      rw [put_defers'] at this
      rw [put_defers]
      exact this
theorem agreeM_of {ds : List Deferred} {n : Nat} {E : Env} {a : Act} (h : Agree E n a) : AgreeM (ds) E n { a with defers := a.defers ++ ds } :=
  ⟨h.reads, h.size, by rw [h.defers]; rfl⟩
/-- What is left to do behind some plain operations. -/
def cutQ (ro : Option Nat) (mk : List Deferred) (P : Program) (B n : Nat) (ops : Array Oper) (post : List Oper) (Q : GQ) : Exit → Env → Ents → Prop
  | .normal, E, S => OWpG ro mk P B n ops post Q E S
  | .outgrown, _, _ => False
  | e, E, S => Q mk e E S
theorem OWpG.plain {l post : List Oper} (hc : l.all noDefer = true) (h : OWp P B n ops l (cutQ ro mk P B n ops post Q) E S) : OWpG ro mk P B n ops (l ++ post) Q E S := by
  intro d a w hS hA
  have e : a = { ({ a with defers := [] } : Act) with defers := ({ a with defers := [] } : Act).defers ++ mk } := by
    obtain ⟨t, ds⟩ := a
    have := hA.defers
    simp only at this
    subst this
    rfl
  have key := list_in (ro := ro) (mk := mk) (ops := ops) (d := d) (post := post) (Q0 := Post B n (cutQ ro mk P B n ops post Q) w) (Q1 := PostG B n Q w) ?_ ?_ ?_ l hc { a with defers := [] } w (h _ w hS hA.strip)
  · rw [e]; exact key
  · rintro ⟨_, _, _, _, _, _, _, _, q⟩; exact q
  · rintro a' w' ⟨_, E', S', hb, hs, ha, q⟩
    have := q d _ w' hs (agreeM_of (ds := mk) ha)
    exact wpListIn_mono' (fun _ _ _ => PostG.later hb) _ _ _ this
  · rintro ch a' w' ⟨hp, _⟩; exact hp.elim
theorem OWpG.cut (k : Nat) {l : List Oper} (hc : (l.take k).all noDefer = true) (h : OWp P B n ops (l.take k) (cutQ ro mk P B n ops (l.drop k) Q) E S) : OWpG ro mk P B n ops l Q E S := by
  have := OWpG.plain hc h
  rwa [List.take_append_drop] at this
theorem OWpG.nil (h : Q mk .normal E S) : OWpG ro mk P B n ops [] Q E S := fun _ _ w hS hA => ⟨trivial, mk, E, S, Below.refl B w, hS, hA, h⟩
theorem WpG.regionG {id : Nat} (h : OWpG ro mk P B n ops ops.toList Q E S) : WpG ro mk P B n (.region id ops false) Q E S :=
  fun d a w hS hA => wpIn_region_list (h d a w hS hA)
theorem WpG.region {id : Nat} (hc : ops.toList.all noDefer = true) (h : OWp P B n ops ops.toList (noOut (Q mk)) E S) : WpG ro mk P B n (.region id ops false) Q E S := by
  refine WpG.regionG ?_
  have := OWpG.plain (ro := ro) (mk := mk) (Q := Q) (post := []) hc (h.monoQ fun e E S q => ?_)
  · rwa [List.append_nil] at this
  · cases e <;> first | exact OWpG.nil q | exact q

/-- A call of a loop's yield: whether to go on, and the memory behind it. -/
def YieldWp (P : Program) (B l : Nat) (args : Array Value) (Q : Bool → Ents → Prop) (S : Ents) : Prop :=
  ∀ d w, Sim B S w → YieldAt Fence.wide d P l args w fun e W' => ∃ b S', e = .returned (.bool b) ∧ Below B w W' ∧ Sim B S' W' ∧ Q b S'
theorem YieldWp.mono {l : Nat} {args : Array Value} {Q Q' : Bool → Ents → Prop} (h : YieldWp P B l args Q S) (hq : ∀ b S, Q b S → Q' b S) : YieldWp P B l args Q' S := by
  intro d w hS
  obtain ⟨fn, tmps, assign, body, hy, hr⟩ := h d w hS
  exact ⟨fn, tmps, assign, body, hy, hr.mono fun _ _ ⟨b, S', e, hb, hs, q⟩ => ⟨b, S', e, hb, hs, hq _ _ q⟩⟩
theorem YieldWp.permS {l : Nat} {args : Array Value} {Q : Bool → Ents → Prop} {S' : Ents} (hp : S.Perm S') (h : YieldWp P B l args Q S') : YieldWp P B l args Q S := fun d w hS => h d w (hS.perm hp)
theorem agreeM_put {E : Env} {n : Nat} {a : Act} {mk : List Deferred} (hA : AgreeM mk E n a) {d : Option Tmp} (hd : dstOk n d = true) (v : Value) : AgreeM mk (putE E d v) n (a.put d v) := by
  have h := hA.strip.putE hd v
  refine ⟨fun k u hk => ?_, ?_, by rw [put_defers']; exact hA.defers⟩
  · have := h.reads k u hk
    rw [put_defers] at this
    exact this
  · have := h.size
    rw [put_defers] at this
    exact this
theorem OWpG.yield {o : Oper} {rest : List Oper} {l : Nat} {c : Call} {x : Operand} {vs : List Value} (hg : o.guard = none) (hd : dstOk n o.dst = true) (ho : o.op = .call c) (hc : c.callee = .value x) (hx : opd E x = some (.func (.yield l) #[] #[]))
    (hvs : opds E c.args.toList = some vs) (h : YieldWp P B l vs.toArray (fun b S' => OWpG none mk P B n ops rest Q (putE E o.dst (.bool b)) S') S) : OWpG none mk P B n ops (o :: rest) Q E S := by
  intro d a w hS hA
  unfold wpListIn
  have hw : Region.wanted o (yielded ops a.tmps) = true := by simp [Region.wanted, hg]
  rw [if_pos hw]
  refine ⟨fun _ _ => trivial, ?_⟩
  have hev := eval_defers a []
  have hargs : c.args.map a.eval = vs.toArray := by
    apply Array.ext'
    have := opds_sound hA.strip hvs
    rw [hev] at this
    simpa using this
  have hxe : a.eval x = .func (.yield l) #[] #[] := by rw [← hev]; exact opd_sound hA.strip hx
  obtain ⟨fn, tmps, assign, body, hy, hr⟩ := h (d - 1) w hS
  have e : ((o.semAt (fin none).round a.eval)).run P w = .ok (.round l fn tmps assign body) w := by
    rw [Oper.semAt_eq _ _ _ (fun c e => by rw [ho] at e; cases e)]
    simp [execOp, ho, resolve, hc, hxe, Deferred.ofValue, hargs, invoke, hy]
  rw [e]
  refine ⟨fun h => by simp [fin, Fence.wide] at h, hr.mono ?_⟩
  rintro e w' ⟨b, S', rfl, hb, hs, q⟩
  exact wpListIn_mono' (fun _ _ _ => PostG.later hb) _ _ _ (q d _ w' hs (agreeM_put hA hd _))
end

/-- What is known of a record's slots. -/
structure TmpsOk (E : Env) (n : Nat) (t : Array Value) : Prop where
  reads : ∀ d v, Env.get E d = some v → t[d]? = some v
  size : t.size = n
theorem TmpsOk.put {E : Env} {n : Nat} {t : Array Value} (h : TmpsOk E n t) (d : Nat) (v : Value) (hd : Nat.blt d n = true) : TmpsOk ((d, v) :: E) n (t.setIfInBounds d v) := by
  have hd : d < n := by simpa [Nat.blt_eq] using hd
  have := (show Agree E n { tmps := t, defers := [] } from ⟨h.reads, h.size, rfl⟩).put d v hd
  exact ⟨this.reads, this.size⟩
def jumpOf : Exit → Option (Option Code)
  | .normal => some none
  | .ret => some (some .ret)
  | .exit id => some (some (.exit id))
  | _ => none
section
variable {P : Program} {B n : Nat} {S : Ents}
theorem sim_put {w : World} {l : Nat} {o o' : Obj} (h : Sim B ((l, o) :: S) w) (hB : B ≤ l) : Sim B ((l, o') :: S) (w.putObj l o') := by
  have hl : l < w.heap.size := h.lt (x := (l, o)) (.head _)
  exact h.turn (i := 0) rfl rfl hB (World.putObj_heap_same hl) (fun k hk => World.putObj_heap_other hk) (by simp [World.putObj])
theorem below_put {w : World} {l : Nat} {o' : Obj} (hB : B ≤ l) (h : B ≤ w.heap.size) : Below B w (w.putObj l o') :=
  (Below.refl B w).grown (grownBy_putObj' w l o') h (fun k e => by cases e; exact hB)
/-- One round, out of its body's walk. -/
theorem YieldWp.round {l : Nat} {r : Loop} {args : Array Value} {t : Array Value} {E : Env} {Q : Bool → Ents → Prop} (hB : B ≤ l) (hr : r.state = .ready) (hs : args.size = r.params.size)
    (ht : (r.params.zip args).foldl (fun tmps (t, a) => tmps.setIfInBounds t a) r.tmps = t) (hT : TmpsOk E n t) {assign body : Code} (has : r.assign = assign) (hbd : r.body = body)
    (h : WpG (some l) [] P B n assign (fun mk e E' S' => e = .normal ∧ mk = [] ∧ ∃ S1, S'.Perm ((l, .loop r) :: S1) ∧
      WpG (some l) [] P B n body (fun _ e' _ S'' => ∃ S2 j S3, ((l, .loop { r with state := .busy }) :: S2).Sublist S3 ∧ S''.Perm S3 ∧ jumpOf e' = some j ∧
        Q j.isNone ((l, .loop { r with state := if j.isNone then .ready else .done, pending := j }) :: S2)) E' ((l, .loop { r with state := .busy }) :: S1)) E ((l, .loop r) :: S)) :
    YieldWp P B l args Q ((l, .loop r) :: S) := by
  subst has hbd
  intro d w hS
  have hl : w.heap[l]? = some (.loop r) := hS.holds (l, .loop r) (.head _)
  refine ⟨r.fn, t, r.assign, r.body, by rw [run_yield hl hs, ht], roundIn_of_wpIn trivial ?_⟩
  refine wpIn_mono (h d { tmps := t, defers := [] } w hS ⟨hT.reads, hT.size, rfl⟩) ?_
  rintro e a1 w1 ⟨_, mk', E1, S1', hb1, hs1, ha1, rfl, rfl, S1, hperm, hbody⟩
  have hs1' := hs1.perm hperm
  have hl1 : w1.heap[l]? = some (.loop r) := hs1'.holds (l, .loop r) (.head _)
  refine ⟨_, run_beginRound hl1 hr, ?_⟩
  refine wpIn_mono (hbody d a1 _ (sim_put hs1' hB) ha1) ?_
  rintro e2 a2 w2 ⟨hnp, mk2, E2, S2', hb2, hs2, ha2, S2, j, S3, hsub2, hperm2, hj, q⟩
  have hs2' := (hs2.perm hperm2).sublist hsub2
  have hl2 : w2.heap[l]? = some (.loop { r with state := .busy }) := hs2'.holds (l, .loop { r with state := .busy }) (.head _)
  have hfin : ∃ v w', (Instr.endRound l j).run P w2 = .ok v w' ∧ ∃ b S', (Ending.returned v) = .returned (.bool b) ∧ Below B w w' ∧ Sim B S' w' ∧ Q b S' :=
    ⟨_, _, run_endRound j hl2, _, _, rfl, ((hb1.trans (below_put hB hs1.base)).trans hb2).trans (below_put hB hs2.base), sim_put hs2' hB, q⟩
  cases e2 with
  | normal => cases hj; exact hfin
  | ret => cases hj; exact hfin
  | exit id => cases hj; exact hfin
  | goto t => cases hj
  | panic c => exact hnp
  | outgrown => exact hnp

/-- The statement, outside of rounds. -/
theorem WpG.rangeFunc {g : Operand} {ps : Array Tmp} {assign body : Code} {Q : GQ} {E : Env} {gf : FuncId} {lb : List Value} (hg : opd E g = some (.func (.func gf) #[] lb.toArray)) (hgf : callable P gf = true)
    (H : ∀ D l r, B ≤ D → B ≤ l → (∀ x ∈ S, x.1 < D) → D < l → TmpsOk E n r.tmps → r.params = ps → r.assign = assign → r.body = body → r.state = .ready → r.pending = none →
      CallWp P B gf (.func (.yield l) #[] #[] :: lb).toArray (fun _ S' => ∃ r' S1, S'.Perm ((l, .loop r') :: (D, .deferred (some [])) :: S1) ∧ r'.state ≠ .busy ∧
        (match r'.pending with
          | none => Q [{ target := .collected D, args := #[] }] .normal E ((D, .deferred (some [])) :: S1)
          | some c => WpG none [{ target := .collected D, args := #[] }] P B n c Q E ((D, .deferred (some [])) :: S1))) ((l, .loop r) :: (D, .deferred (some [])) :: S)) :
    WpG none [] P B n (.rangeFunc g ps assign body) Q E S := by
  intro d a w hS hA
  refine wpIn_rangeFunc fun fn _ => ?_
  obtain ⟨rec, hrec⟩ : ∃ rec : Loop, rec = { state := .ready, pending := none, fn, tmps := a.tmps, params := ps, assign, body, defers := w.heap.size } := ⟨_, rfl⟩
  obtain ⟨W1, hW1⟩ : ∃ W1, W1 = (w.alloc (.deferred (some []))).alloc (.loop rec) := ⟨_, rfl⟩
  have hev : a.eval g = .func (.func gf) #[] lb.toArray := by
    rw [← eval_defers a []]; exact opd_sound hA.strip hg
  have hS1 : Sim B ((w.heap.size + 1, .loop rec) :: (w.heap.size, .deferred (some [])) :: S) W1 := by
    have := (hS.alloc (.deferred (some []))).alloc (.loop rec)
    rw [World.size_alloc] at this
    rw [hW1]; exact this
  have hb1 : Below B w W1 := by rw [hW1]; exact ((Below.refl B w).alloc hS.base _).alloc (by have := hS.base; simp; omega) _
  refine ⟨w.heap.size + 1, [{ target := .collected w.heap.size, args := #[] }], W1, { target := .fn (.func gf) lb.toArray, args := #[.func (.yield (w.heap.size + 1)) #[] #[]] }, W1, gf, (.func (.yield (w.heap.size + 1)) #[] #[] :: lb).toArray, W1, ?_, ?_, fun _ _ => trivial, ?_, fun h => by simp [fin, Fence.wide] at h, ?_⟩
  · rw [hW1, hrec]; exact run_enterLoop_outer _ _ _ _ _
  · simp only [resolve, hev]
    simp [go_sem]
  · have := callable_run hgf (#[.func (.yield (w.heap.size + 1)) #[] #[]] ++ lb.toArray) W1
    simp only [invoke]
    rw [this]
    congr 2
    apply Array.ext'
    simp
  · refine calls_in (Calls.mono (H w.heap.size (w.heap.size + 1) rec hS.base (by have := hS.base; omega) (fun x hx => hS.lt hx) (by omega) (by rw [hrec]; exact ⟨hA.reads, hA.size⟩) (by rw [hrec]) (by rw [hrec]) (by rw [hrec]) (by rw [hrec]) (by rw [hrec]) W1 hS1) ?_)
    rintro e w3 ⟨v, S', rfl, hb3, hs3, r', S1, hperm, hnb, hq⟩
    have hs3' := hs3.perm hperm
    have hl3 : w3.heap[w.heap.size + 1]? = some (.loop r') := hs3'.holds (_, _) (.head _)
    have hB : B ≤ w.heap.size + 1 := by have := hS.base; omega
    obtain ⟨W4, hW4⟩ : ∃ W4, w3.putObj (w.heap.size + 1) (.loop { r' with state := .exhausted }) = W4 := ⟨_, rfl⟩
    refine ⟨r'.pending, W4, by rw [← hW4]; exact run_endLoop hl3 hnb, ?_⟩
    have hs4 := (sim_put (o' := .loop { r' with state := .exhausted }) hs3' hB).sublist (List.sublist_cons_self _ _)
    have hb4 := (hb1.trans hb3).trans (below_put (o' := .loop { r' with state := .exhausted }) hB hs3.base)
    have hA4 : AgreeM [{ target := .collected w.heap.size, args := #[] }] E n { a with defers := [{ target := .collected w.heap.size, args := #[] }] ++ a.defers } :=
      ⟨hA.reads, hA.size, by rw [hA.defers]; rfl⟩
    rw [hW4] at hs4 hb4
    cases hp : r'.pending with
    | none =>
      rw [hp] at hq
      exact ⟨trivial, _, E, _, hb4, hs4, hA4, hq⟩
    | some c =>
      rw [hp] at hq
      exact wpIn_mono (hq d _ _ hs4 hA4) fun _ _ _ => PostG.later hb4

/-- What stands where a function with a mark is left. -/
def RetG (P : Program) (B : Nat) (rs : List ResultVar) (Q : Value → Ents → Prop) : GQ := fun mk e E S =>
  (match e with | .normal => True | .ret => True | _ => False) ∧
  ((mk = [] ∧ ∃ vs, ResV P E S rs vs ∧ Q (tup vs) S) ∨ ∃ D S0, B ≤ D ∧ mk = [{ target := .collected D, args := #[] }] ∧ S.Perm ((D, .deferred (some [])) :: S0) ∧ ∃ vs, ResV P E S0 rs vs ∧ Q (tup vs) S0)
theorem CallWp.enterG {f : FuncId} {fn : Func} {c : Code} {args : List Value} {Q : Value → Ents → Prop} (hf : P.funcs[f]? = some fn) (hb : fn.body = some c) (hn : fn.ntmps = n)
    (ha : Nat.ble args.length n = true) (h : WpG none [] P B n c (RetG P B fn.results.toList Q) (args0 args 0) S) : CallWp P B f args.toArray Q S := by
  intro w hS
  refine (callsIn_wide (n := 0)).1 (callsIn_of_wp_marks hf hb trivial ?_ rfl)
  have hlen : args.length ≤ n := by simpa [Nat.ble_eq] using ha
  have hA : AgreeM [] (args0 args 0) n { tmps := args.toArray ++ Array.replicate (fn.ntmps - args.toArray.size) undef, defers := [] } := by
    refine ⟨fun d v hd => ?_, by simp; omega, rfl⟩
    obtain ⟨_, h2⟩ := args0_get args 0 d v hd
    have hlt : d < args.length := (List.getElem?_eq_some_iff.1 h2).1
    simp only [Nat.sub_zero] at h2
    rw [Array.getElem?_append_left (by simpa using hlt)]
    simpa using h2
  refine wpIn_mono (h 0 _ w hS hA) ?_
  rintro e a' w' ⟨_, mk', E', S', hb, hs, ha, hr, hq⟩
  have key : LeavesInM Fence.wide 0 P fn a'.tmps (fun e w' => ∃ v S', e = .returned v ∧ Below B w w' ∧ Sim B S' w' ∧ Q v S') a'.defers .returning w' := by
    rw [ha.defers]
    rcases hq with ⟨rfl, vs, hres, q⟩ | ⟨D, S0, hD, rfl, hperm, vs, hres, q⟩
    · exact ⟨_, results_run (a := { a' with defers := [] }) ha.strip hs hres, _, S', rfl, hb, hs, q⟩
    · have hs' := hs.perm hperm
      have hd : w'.heap[D]? = some (.deferred (some [])) := hs'.holds (_, _) (.head _)
      have hs2 := (sim_put (o' := .deferred none) hs' hD).sublist (List.sublist_cons_self _ _)
      refine ⟨by simp, .inl ⟨D, _, rfl, run_takeDeferred hd, ?_⟩⟩
      exact ⟨_, results_run (a := { a' with defers := [] }) ha.strip hs2 hres, _, S0, rfl, hb.trans (below_put hD hs.base), hs2, q⟩
  cases e with
  | normal => exact key
  | ret => exact key
  | exit _ => exact hr.elim
  | goto _ => exact hr.elim
  | panic _ => exact hr.elim
  | outgrown => exact hr.elim
end
end Go.Lg

/- Maps from whole numbers to true: a set of numbers. -/
namespace Go.Lg
open Go.RowKit (Below)
open Go.MapKept (run_findKey run_checkKey run_setObj_map heap_set IsKey)

def seenM : Nat → List Int → List MapEntry
  | _, [] => []
  | i, k :: L => { key := .int .i64 k, val := .bool true, born := i } :: seenM (i + 1) L
/-- The map that has these numbers. -/
def mapO (L : List Int) : Obj := .map (seenM 0 L).toArray L.length
theorem seenM_snoc (k : Int) : ∀ (L : List Int) (i : Nat), seenM i (L ++ [k]) = seenM i L ++ [{ key := .int .i64 k, val := .bool true, born := i + L.length }]
  | [], i => by simp [seenM]
  | x :: L, i => by
    rw [List.cons_append, seenM, seenM, seenM_snoc k L (i + 1), List.cons_append]
    simp only [List.length_cons]
    congr 4
    omega
theorem seenM_find (k : Int) : ∀ (L : List Int) (i j : Nat), ∃ r, Instr.findNow (.int .i64) (.int .i64 k) (seenM i L) j = some r ∧ (r = none ∧ k ∉ L ∨ ∃ m, r = some (m, .bool true) ∧ k ∈ L)
  | [], _, _ => ⟨none, rfl, .inl ⟨rfl, by simp⟩⟩
  | x :: L, i, j => by
    obtain ⟨r, h1, h2⟩ := seenM_find k L (i + 1) (j + 1)
    by_cases e : k = x
    · subst e
      exact ⟨some (j, .bool true), by simp [seenM, Instr.findNow, Instr.sameNow], .inr ⟨j, rfl, by simp⟩⟩
    · have e' : (k == x) = false := by simp [e]
      refine ⟨r, by simp [seenM, Instr.findNow, Instr.sameNow, e', h1], ?_⟩
      rcases h2 with ⟨h2, h3⟩ | ⟨m, h2, h3⟩
      · exact .inl ⟨h2, by simp [e, h3]⟩
      · exact .inr ⟨m, h2, by simp [h3]⟩

section
variable {P : Program} {B n : Nat} {E : Env} {S : Ents} {o : Oper} {K : Env → Ents → Prop}

theorem Step.makeMap {t : TypeId} (hd : dstOk n o.dst = true) (ho : o.op = .makeMap t none) (h : ∀ L, B ≤ L → (∀ x ∈ S, x.1 < L) → K (putE E o.dst (.map (some L))) ((L, mapO []) :: S)) : Step P B n o K E S := by
  refine Step.makes (v := fun L => .map (some L)) hd (fun a w hS hA => ?_) h
  simp [execOp, ho, Instr.makeMap, mapO, seenM]
theorem Gives.seen {t kt et : TypeId} {x y : Operand} {b : Nat} {k : Int} {L : List Int} (ho : o.op = .lookup t x y false) (hm : P.underlying t = some (.map kt et)) (hk : P.underlying kt = some (.int .i64)) {i : TypeInfo} (hi : P.info? et = some i) (hiz : i.zero = some (.bool false))
    (hx : opd E x = some (.map (some b))) (hy : opd E y = some (.int .i64 k)) : Gives P n [(b, mapO L)] E o (.bool (decide (k ∈ L))) := by
  intro a w hS hA
  have hb : w.heap[b]? = some (.map (seenM 0 L).toArray L.length) := hS (b, mapO L) (by simp)
  have hget : (getObj b).run P w = .ok (.map (seenM 0 L).toArray L.length) w := by simp [getObj, Sem.run, hb]
  obtain ⟨r, h1, h2⟩ := seenM_find k L 0 0
  have hf := run_findKey (P := P) (w := w) hk h1
  have hz : (zeroValue et).run P w = .ok (.bool false) w := by simp [zeroValue, typeInfo, hi, hiz]
  have hck : ∀ em, (Instr.checkKey em 10000 kt (.int .i64 k)).run P w = .ok () w := fun em => run_checkKey (n := 9999) hk (by simp [IsKey]) em
  simp only [execOp, ho, opd_sound hA hx, opd_sound hA hy, Instr.lookup, Sem.run_bind, run_underlying hm, Result.andThen_ok, hget, Sem.run_pure, hck, hf]
  rcases h2 with ⟨rfl, h3⟩ | ⟨m, rfl, h3⟩
  · simp [hz, h3]
  · simp [h3]
theorem Step.mapAdd {t kt et : TypeId} {x y z : Operand} {b : Nat} {k : Int} {L : List Int} {S' : Ents} (i : Nat) (hd : dstOk n o.dst = true) (ho : o.op = .mapUpdate t x y z) (hm : P.underlying t = some (.map kt et)) (hk : P.underlying kt = some (.int .i64))
    (hx : opd E x = some (.map (some b))) (hy : opd E y = some (.int .i64 k)) (hz : opd E z = some (.bool true)) (he : entAt S i = some (b, mapO L)) (hB : B ≤ b) (hn : k ∉ L) (hS' : setEnt S i (b, mapO (L ++ [k])) = some S')
    (h : K (putE E o.dst undef) S') : Step P B n o K E S := by
  intro a w hS hA
  unfold Oper.wp
  have hb : w.heap[b]? = some (.map (seenM 0 L).toArray L.length) := hS.holds _ (entAt_mem he)
  have hget : (getObj b).run P w = .ok (.map (seenM 0 L).toArray L.length) w := by simp [getObj, Sem.run, hb]
  obtain ⟨r, h1, h2⟩ := seenM_find k L 0 0
  have hf := run_findKey (P := P) (w := w) hk h1
  have hck : (Instr.checkKey false 10000 kt (.int .i64 k)).run P w = .ok () w := run_checkKey (n := 9999) hk (by simp [IsKey]) false
  rcases h2 with ⟨rfl, _⟩ | ⟨m, rfl, h3⟩
  · have e : mapO (L ++ [k]) = .map ((seenM 0 L).toArray.push { key := .int .i64 k, val := .bool true, born := L.length }) (L.length + 1) := by
      unfold mapO
      rw [seenM_snoc]
      simp
    have hr : (execOp a.eval o).run P w = .ok .skip { w with heap := w.heap.setIfInBounds b (mapO (L ++ [k])) } := by
      simp only [execOp, ho, opd_sound hA hx, opd_sound hA hy, opd_sound hA hz, Instr.mapUpdate, Sem.run_bind, run_underlying hm, Result.andThen_ok, hget, hck, hf, run_setObj_map _ hb, Sem.run_pure, e]
    rw [hr]
    have hset := heap_set (o' := mapO (L ++ [k])) hb
    have hlt : b < w.heap.size := (Array.getElem?_eq_some_iff.1 hb).1
    refine ⟨?_, _, S', ?_, hA.putE hd undef, h⟩
    · exact (Below.refl B w).grown (row := some b) ⟨rfl, rfl, rfl, by simp, fun k' _ hk' => hset.2 k' (fun e => hk' (by rw [e]))⟩ hS.base (fun k' e => by cases e; exact hB)
    · exact hS.turn he hS' hB hset.1 (fun k' hk' => hset.2 k' hk') (by simp)
  · exact absurd h3 hn
end
end Go.Lg
