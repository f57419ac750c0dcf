/- A layer over the weakest preconditions of the model: what is known of memory and of the slots, told by rules. -/
import Derived.Test.YtnjgekonoladfaaLgDOps
namespace Go.Lg
section
variable {P : Program} {B n : Nat} {ops : Array Oper} {Q : Exit → Env → Ents → Prop} {E : Env} {S : Ents} {o : Oper} {rest : List Oper}

theorem OWp.load {t : TypeId} {x : Operand} {b o' : Nat} {v : Value} {l : List Value} {e : TypeId} {fz : Nat × Nat} (hm : (b, cel l e fz) ∈ S) (hg : guardB ops.toList E o.guard = some true) (hd : dstOk n o.dst = true)
    (ho : o.op = .load t x) (hx : opd E x = some (.pointer (some ⟨b, o', none⟩))) (hp : partAt P t l o' = some v)
    (h : OWp P B n ops rest Q (putE E o.dst v) S) : OWp P B n ops (o :: rest) Q E S :=
  OWp.gives hg hd (Gives.load (l := l) (e := e) (fz := fz) ho hx hp) (by intro y hy; rw [List.mem_singleton] at hy; subst hy; exact hm) h

theorem OWp.g {v : Value} (hg : guardB ops.toList E o.guard = some true) (hd : dstOk n o.dst = true) (hv : Gives P n [] E o v)
    (h : OWp P B n ops rest Q (putE E o.dst v) S) : OWp P B n ops (o :: rest) Q E S := OWp.gives hg hd hv (by simp) h

theorem DWp.load {muts : List Nat} {lb : Array Bool} {i : Nat} {rest : List Nat} {pr : List (Nat × Ents)} {t : TypeId} {x : Operand} {b o' : Nat} {v : Value} {l : List Value} {e : TypeId} {fz : Nat × Nat} (hm : (b, cel l e fz) ∈ S) (hmut : muts.contains i = false) (hi : ops[i]? = some o)
    (hg : guardB ops.toList E o.guard = some true) (hd : dstOk n o.dst = true) (ho : o.op = .load t x) (hx : opd E x = some (.pointer (some ⟨b, o', none⟩))) (hp : partAt P t l o' = some v)
    (h : DWp P B n ops muts (lb.setIfInBounds i true) rest ((i, [(b, cel l e fz)]) :: pr) Q (putE E o.dst v) S) : DWp P B n ops muts lb (i :: rest) pr Q E S :=
  DWp.gives hmut hi hg hd (Gives.load (l := l) (e := e) (fz := fz) ho hx hp) (by intro y hy; rw [List.mem_singleton] at hy; subst hy; exact hm) h

/-- The same, with no promise kept: where nothing behind turns memory. -/
theorem Wp.noOrder {id : Nat} (ord : List Nat) (hm : P.follows .mixedOrders = true) (hst : ((okFrom ops [] (Array.replicate ops.size false) ord && Region.noSelect ops) && (ord.length == ops.size)) = true)
    (h : DWp P B n ops [] (Array.replicate ops.size false) ord [] Q E S) : Wp P B n (.region id ops true) Q E S := Wp.regionDraw ord [] hm hst h

theorem blockQ_exit {id : Nat} (h : Q .normal E S) : blockQ id Q (.exit id) E S := by simp [blockQ, h]
theorem thenQ_normal {K : Env → Ents → Prop} (h : K E S) : thenQ K Q .normal E S := h
end

theorem CallWp.focus {P : Program} {B : Nat} {f : FuncId} {args : Array Value} {Q : Value → Ents → Prop} {S R : Ents} {x : Nat × Obj} (i : Nat) (h : takeOut i S = some (x, R)) (hc : CallWp P B f args Q (x :: R)) : CallWp P B f args Q S :=
  fun w hS => hc w (hS.perm (takeOut_perm i S x R h))

theorem OWp.focus {P : Program} {B n : Nat} {ops : Array Oper} {l : List Oper} {Q : Exit → Env → Ents → Prop} {E : Env} {S R : Ents} {x : Nat × Obj} (i : Nat) (h : takeOut i S = some (x, R)) (hc : OWp P B n ops l Q E (x :: R)) : OWp P B n ops l Q E S :=
  fun a w hS hA => hc a w (hS.perm (takeOut_perm i S x R h)) hA

theorem Wp.focus {P : Program} {B n : Nat} {c : Code} {Q : Exit → Env → Ents → Prop} {E : Env} {S R : Ents} {x : Nat × Obj} (i : Nat) (h : takeOut i S = some (x, R)) (hc : Wp P B n c Q E (x :: R)) : Wp P B n c Q E S :=
  fun a w hS hA => hc a w (hS.perm (takeOut_perm i S x R h)) hA

theorem Env.Sub.cons' {E' E : Env} {d : Nat} {u v : Value} (h : Env.get E d = some u) (e : u = v) (hs : Env.Sub E' E) : Env.Sub ((d, v) :: E') E :=
  Env.Sub.cons (e ▸ h) hs

/-- A loop over states x: what its slots and its memory hold at each round's head. -/
theorem Wp.loopS {P : Program} {B n : Nat} {c : Code} {Q : Exit → Env → Ents → Prop} {E : Env} {S : Ents} {α : Type} (μ : α → Nat) (e : α → Env) (s : α → Ents) (R : α → Prop) (x0 : α) (h0 : Env.Sub (e x0) E) (hs : S.Perm (s x0)) (hR : R x0)
    (round : ∀ x, R x → Wp P B n c (thenQ (fun E' S' => ∃ x', μ x' < μ x ∧ R x' ∧ Env.Sub (e x') E' ∧ S'.Perm (s x')) Q) (e x) (s x)) : Wp P B n (.loop c) Q E S := by
  refine Wp.loop (fun m E S => ∃ x, R x ∧ μ x = m ∧ Env.Sub (e x) E ∧ S.Perm (s x)) (μ x0) ⟨x0, hR, rfl, h0, hs⟩ ?_
  rintro m E S ⟨x, hx, rfl, hsub, hsp⟩
  refine Wp.weaken hsub (fun _ h => h.perm hsp) (Wp.mono (round x hx) ?_)
  intro ex E' S' q
  cases ex with
  | normal =>
    obtain ⟨x', hlt, hR', hsub, hsp⟩ := q
    exact ⟨μ x', hlt, x', hR', rfl, hsub, hsp⟩
  | exit _ => exact q
  | goto _ => exact q
  | ret => exact q
  | panic _ => exact q
  | outgrown => exact q

/-- Two pieces of code, and what holds between them. -/
theorem Wp.seqS {P : Program} {B n : Nat} {x y : Code} {Q : Exit → Env → Ents → Prop} {E : Env} {S : Ents} {α : Type} (e : α → Env) (s : α → Ents) (R : α → Prop)
    (h1 : Wp P B n x (thenQ (fun E' S' => ∃ a, R a ∧ Env.Sub (e a) E' ∧ S'.Perm (s a)) Q) E S) (h2 : ∀ a, R a → Wp P B n y Q (e a) (s a)) : Wp P B n (.seq x y) Q E S := by
  refine Wp.seq (Wp.mono h1 ?_)
  intro ex E' S' q
  cases ex with
  | normal =>
    obtain ⟨a, hR, hsub, hsp⟩ := q
    exact Wp.weaken hsub (fun _ h => h.perm hsp) (h2 a hR)
  | exit _ => exact q
  | goto _ => exact q
  | ret => exact q
  | panic _ => exact q
  | outgrown => exact q

theorem Gives.rem {P : Program} {n : Nat} {E : Env} {o : Oper} {t yt : TypeId} {x y : Operand} {k : IntKind} {a b : Int} (ho : o.op = .binOp .rem t x y yt) (hx : opd E x = some (.int k a)) (hy : opd E y = some (.int k b)) (hb : b ≠ 0) :
    Gives P n [] E o (.int k (a.tmod b)) := by
  intro a' w _ hA
  simp [execOp, ho, opd_sound hA hx, opd_sound hA hy, eqGuard_rem, binOp_rem, Op.intDiv, hb]

theorem Gives.quo {P : Program} {n : Nat} {E : Env} {o : Oper} {t yt : TypeId} {x y : Operand} {k : IntKind} {a b : Int} (ho : o.op = .binOp .quo t x y yt) (hx : opd E x = some (.int k a)) (hy : opd E y = some (.int k b)) (hb : b ≠ 0) :
    Gives P n [] E o (.int k (k.wrap (a.tdiv b))) := by
  intro a' w _ hA
  simp [execOp, ho, opd_sound hA hx, opd_sound hA hy, eqGuard_quo, binOp_quo, Op.intDiv, hb]

theorem Wp.dropAt {P : Program} {B n : Nat} {c : Code} {Q : Exit → Env → Ents → Prop} {E : Env} {S R : Ents} {x : Nat × Obj} (i : Nat) (h : takeOut i S = some (x, R)) (hc : Wp P B n c Q E R) : Wp P B n c Q E S :=
  fun a w hS hA => hc a w ((hS.perm (takeOut_perm i S x R h)).sublist (List.sublist_cons_self _ _)) hA
theorem OWp.dropAt {P : Program} {B n : Nat} {ops : Array Oper} {l : List Oper} {Q : Exit → Env → Ents → Prop} {E : Env} {S R : Ents} {x : Nat × Obj} (i : Nat) (h : takeOut i S = some (x, R)) (hc : OWp P B n ops l Q E R) : OWp P B n ops l Q E S :=
  fun a w hS hA => hc a w ((hS.perm (takeOut_perm i S x R h)).sublist (List.sublist_cons_self _ _)) hA

/-- append to a row of the call's own, which stands behind the entries A. -/
theorem Step.appendAt {P : Program} {B n : Nat} {K : Env → Ents → Prop} {E : Env} {o : Oper} {t e : TypeId} {i : TypeInfo} {z : Value} {x y : Operand} {v u : Value} {k m : Nat} {xs news : List Value} {es R : Ents} (A : Ents)
    (hd : dstOk n o.dst = true) (ho : o.op = .call ⟨.builtin .append, #[x, y], #[t, t]⟩)
    (ht : P.underlying t = some (.slice e)) (hi : P.info? e = some i) (hz : i.zero = some z) (hzs : z.cells.size = i.size) (hsz : 0 < i.size)
    (hx : opd E x = some v) (hy : opd E y = some u) (hown : Own B e i.size v k xs es) (hr : Reads (A ++ (es ++ R)) i.size u m news)
    (h1 : news.all (·.oneCell') = true) (hbytes : (k + m) * i.bytes ≤ 140737488355328) (h63 : k + m ≤ maxLen)
    (h : ∀ v' es', Own B e i.size v' (k + m) (xs ++ news) es' → (v' = .slice none 0 0 ↔ v = .slice none 0 0 ∧ m = 0) → K (putE E o.dst v') (A ++ (es' ++ R))) : Step P B n o K E (A ++ (es ++ R)) := by
  intro a w hS hA
  refine Oper.upon_monoQ ?_ (fun _ _ _ h => h) ((Step.append (K := fun E' S' => ∃ es', S' = es' ++ (A ++ R) ∧ K E' (A ++ (es' ++ R))) hd ho ht hi hz hzs hsz hx hy (fun w h => h.perm (List.perm_append_comm_assoc A es R)) hown
    (hr.mono fun q hq => by simp only [List.mem_append] at hq ⊢; rcases hq with h | h | h <;> simp [h]) h1 hbytes h63 (fun v' es' ho' hn' => ⟨es', rfl, h v' es' ho' hn'⟩)) a w hS hA)
  rintro a' w' ⟨hb, E', S', hs, ha, es', rfl, hk⟩
  exact ⟨hb, E', _, hs.perm (List.perm_append_comm_assoc es' A R), ha, hk⟩

/-- What is no longer wanted. -/
theorem Wp.drop {P : Program} {B n : Nat} {c : Code} {Q : Exit → Env → Ents → Prop} {E : Env} {S S' : Ents} (h : S'.Sublist S) (hc : Wp P B n c Q E S') : Wp P B n c Q E S :=
  fun a w hS hA => hc a w (hS.sublist h) hA

theorem i64_id {x : Int} (h1 : -9223372036854775808 ≤ x) (h2 : x ≤ 9223372036854775807) : IntKind.i64.wrap x = x := by
  rw [IntKind.wrap_i64]; omega
theorem int_eq {k : IntKind} {a b : Int} (h : a = b) : Value.int k a = Value.int k b := by rw [h]
end Go.Lg
