/- A layer over the weakest preconditions of the model: what is known of memory and of the slots, told by rules. -/
import Derived.Test.YtnjgekonoladfaaLgRules3
import Derived.Test.YtnjgekonoladfaaLgDraw
namespace Go.Lg
open Go.RowKit (Below)

section
variable {P : Program} {B n : Nat} {ops : Array Oper} {Q : Exit → Env → Ents → Prop} {E : Env} {S : Ents}

theorem wpAnyP_monoQ {md : Region.Mode} {Q Q' : Exit → Act → World → Prop} (hq : ∀ e a w, Q e a w → Q' e a w) : ∀ (k : Nat) (l : Array Bool) (pr : List Promise) (a : Act) (w : World),
    wpAnyP P md ops Q k l pr a w → wpAnyP P md ops Q' k l pr a w
  | 0, _, _, _, _, h => ⟨h.1, hq _ _ _ h.2⟩
  | k + 1, l, pr, a, w, h => by
    refine ⟨fun e => hq _ _ _ (h.1 e), fun i hi => ?_⟩
    have h1 := h.2 i hi
    unfold wpOp at h1 ⊢
    split at h1
    · exact ⟨h1.1, wpAnyP_monoQ hq k _ _ _ _ h1.2⟩
    · split
      · rename_i hw
        rw [if_pos hw] at h1
        rcases h1 with h1 | ⟨h1, x, y, h2⟩
        · exact .inl (Oper.upon_monoQ (fun a' w' h' => ⟨h'.1, wpAnyP_monoQ hq k _ _ _ _ h'.2⟩) hq h1)
        · exact .inr ⟨h1, x, y, hq _ _ _ h2⟩
      · rename_i hw
        rw [if_neg hw] at h1
        exact ⟨h1.1, wpAnyP_monoQ hq k _ _ _ _ h1.2⟩

/-- May operation i be taken now? Those of muts turn memory: one of them comes up alone. -/
def okAt (ops : Array Oper) (muts : List Nat) (l : Array Bool) (i : Nat) : Bool :=
  match muts.contains i with
  | true => Region.ready .any ops l == [i]
  | false => (Region.ready .any ops l).contains i && Region.free .any ops l i

def okFrom (ops : Array Oper) (muts : List Nat) : Array Bool → List Nat → Bool
  | l, [] => Region.ready .any ops l == []
  | l, i :: r => Nat.beq i ops.size || (okAt ops muts l i && okFrom ops muts (l.setIfInBounds i true) r)

theorem okFrom_cons {muts : List Nat} {l : Array Bool} {i : Nat} {r : List Nat} {o : Oper} (ho : ops[i]? = some o) (h : okFrom ops muts l (i :: r) = true) :
    okAt ops muts l i = true ∧ okFrom ops muts (l.setIfInBounds i true) r = true := by
  have hi := (Array.getElem?_eq_some_iff.1 ho).1
  have hb : Nat.beq i ops.size = false := by
    cases e : Nat.beq i ops.size with
    | false => rfl
    | true => have := Nat.eq_of_beq_eq_true e; omega
  simpa [okFrom, hb] using h

/-- A region's rest, in one order. -/
structure DGo (ops : Array Oper) (muts : List Nat) (l : Array Bool) (rest : List Nat) (pr : List (Nat × Ents)) (S : Ents) : Prop where
  closed : Closed .any ops l
  ok : okFrom ops muts l rest = true
  sel : Region.noSelect ops = true
  proms : ∀ x ∈ pr, ∀ y ∈ x.2, y ∈ S

def holdsF (F : Ents) (w : World) : Prop := ∀ x ∈ F, w.heap[x.1]? = some x.2

def proms (pr : List (Nat × Ents)) : List Promise := pr.map fun x => (x.1, holdsF x.2)

def keptE (ops : Array Oper) (i : Nat) (pr : List (Nat × Ents)) : List (Nat × Ents) := pr.filter fun x => !waits .any ops x.1 ops.size i

theorem kept_proms (i : Nat) (pr : List (Nat × Ents)) : kept .any ops i (proms pr) = proms (keptE ops i pr) := by
  unfold kept proms keptE
  rw [List.filter_map]
  rfl

def DWp (P : Program) (B n : Nat) (ops : Array Oper) (muts : List Nat) (l : Array Bool) (rest : List Nat) (pr : List (Nat × Ents)) (Q : Exit → Env → Ents → Prop) (E : Env) (S : Ents) : Prop :=
  DGo ops muts l rest pr S → ∀ a w, Sim B S w → Agree E n a → wpAnyP P .any ops (Post B n Q w) rest.length l (proms pr) a w

theorem Wp.regionDraw {id : Nat} (ord muts : List Nat) (hm : P.follows .mixedOrders = true) (hst : ((okFrom ops muts (Array.replicate ops.size false) ord && Region.noSelect ops) && (ord.length == ops.size)) = true)
    (h : DWp P B n ops muts (Array.replicate ops.size false) ord [] Q E S) : Wp P B n (.region id ops true) Q E S := by
  intro a w hS hA
  rw [Bool.and_eq_true, Bool.and_eq_true, beq_iff_eq] at hst
  obtain ⟨⟨h1, h2⟩, h3⟩ := hst
  refine wp_region_any hm (wpAny_of_P _ _ [] _ _ ?_)
  have := h ⟨Closed.start _, h1, h2, by simp⟩ a w.drew hS.drew hA
  have h4 := h3
  rw [h4] at this
  exact wpAnyP_monoQ (fun _ _ _ => Post.later ((Below.refl B w).drew)) _ _ _ a w.drew this

theorem DWp.nil {muts : List Nat} {l : Array Bool} {pr : List (Nat × Ents)} (h : Q .normal E S) : DWp P B n ops muts l [] pr Q E S := by
  intro hg a w hS hA
  have := hg.ok
  simp only [okFrom, beq_iff_eq] at this
  exact ⟨this, trivial, E, S, Below.refl B w, hS, hA, h⟩

theorem DWp.take {muts : List Nat} {l : Array Bool} {i : Nat} {o : Oper} {rest : List Nat} {pr : List (Nat × Ents)} {v : Value} {F : Ents} (hmut : muts.contains i = false) (ho : ops[i]? = some o) (hd : dstOk n o.dst = true)
    (hl : ∀ a, Agree E n a → Leaves P ops (holdsF F) o v a) (hF : ∀ x ∈ F, x ∈ S)
    (h : DWp P B n ops muts (l.setIfInBounds i true) rest ((i, F) :: pr) Q (putE E o.dst v) S) : DWp P B n ops muts l (i :: rest) pr Q E S := by
  intro hg a w hS hA
  obtain ⟨hok, hok'⟩ := okFrom_cons ho hg.ok
  simp only [okAt, hmut, Bool.and_eq_true] at hok
  obtain ⟨hr, hf⟩ := hok
  have hready : i ∈ Region.ready .any ops l := by simpa using hr
  have hpr' : ∀ x ∈ (i, F) :: pr, ∀ y ∈ x.2, y ∈ S := by
    intro x hx
    rcases List.mem_cons.1 hx with rfl | hx
    · exact hF
    · exact hg.proms x hx
  have hrest := h ⟨hg.closed.set hready, hok', hg.sel, hpr'⟩ (a.put o.dst v) w hS (hA.putE hd v)
  refine wpAnyP_first (v := v) (S := holdsF F) ho (fun j o' cs b hj => Region.noSelect_spec hg.sel j o' cs b hj) (fun c a w h => h.1.elim) rest.length l _ a w hg.closed
    (fun j oj hj hne hun hno => Region.free_spec ho hf j oj hj hne hun hno) hready (hl a hA) (fun x hx => hS.holds x (hF x hx)) ?_ hrest
  intro x hx
  rw [kept_proms, proms, List.mem_map] at hx
  obtain ⟨y, hy, rfl⟩ := hx
  exact fun z hz => hS.holds z (hg.proms y (List.mem_filter.1 hy).1 z hz)

theorem DWp.gives {muts : List Nat} {l : Array Bool} {i : Nat} {o : Oper} {rest : List Nat} {pr : List (Nat × Ents)} {v : Value} {F : Ents} (hmut : muts.contains i = false) (ho : ops[i]? = some o)
    (hg : guardB ops.toList E o.guard = some true) (hd : dstOk n o.dst = true) (hv : Gives P n F E o v) (hF : ∀ x ∈ F, x ∈ S)
    (h : DWp P B n ops muts (l.setIfInBounds i true) rest ((i, F) :: pr) Q (putE E o.dst v) S) : DWp P B n ops muts l (i :: rest) pr Q E S :=
  DWp.take hmut ho hd (fun a hA => .inl ⟨guardB_sound hA hg, fun w hw => hv a w hw hA⟩) hF h

theorem DWp.skip {muts : List Nat} {l : Array Bool} {i : Nat} {o : Oper} {rest : List Nat} {pr : List (Nat × Ents)} (hmut : muts.contains i = false) (ho : ops[i]? = some o)
    (hg : guardB ops.toList E o.guard = some false) (hd : dstOk n o.dst = true)
    (h : DWp P B n ops muts (l.setIfInBounds i true) rest ((i, []) :: pr) Q (putE E o.dst undef) S) : DWp P B n ops muts l (i :: rest) pr Q E S :=
  DWp.take (F := []) hmut ho hd (fun _ hA => .inr ⟨guardB_sound hA hg, rfl⟩) (by simp) h

/-- An operation that turns memory: what was promised to those that need not have come up is to be shown behind it. -/
theorem DWp.step {muts : List Nat} {l : Array Bool} {i : Nat} {o : Oper} {rest : List Nat} {pr : List (Nat × Ents)} (hmut : muts.contains i = true) (ho : ops[i]? = some o)
    (hg : guardB ops.toList E o.guard = some true)
    (h : Step P B n o (fun E' S' => (∀ x ∈ keptE ops i pr, ∀ y ∈ x.2, y ∈ S') ∧ DWp P B n ops muts (l.setIfInBounds i true) rest (keptE ops i pr) Q E' S') E S) :
    DWp P B n ops muts l (i :: rest) pr Q E S := by
  intro hgo a w hS hA
  obtain ⟨hr, hok'⟩ := okFrom_cons ho hgo.ok
  simp only [okAt, hmut, beq_iff_eq] at hr
  refine ⟨fun e => (by rw [hr] at e; cases e), fun j hj => ?_⟩
  rw [hr, List.mem_singleton] at hj
  subst hj
  unfold wpOp
  simp only [ho]
  rw [if_pos (guardB_sound hA hg)]
  refine .inl (Oper.upon_monoQ ?_ ?_ (h a w hS hA))
  · rintro a' w' ⟨hb, E', S', hs, ha, hp, q⟩
    rw [kept_proms]
    refine ⟨fun x hx => ?_, wpAnyP_monoQ (fun _ _ _ => Post.later hb) _ _ _ _ _ (q ⟨hgo.closed.set (by rw [hr]; simp), hok', hgo.sel, hp⟩ a' w' hs ha)⟩
    rw [proms, List.mem_map] at hx
    obtain ⟨y, hy, rfl⟩ := hx
    exact fun z hz => hs.holds z (hp y hy z hz)
  · intro _ _ _ h; exact h.elim

/-- .. which all that was taken had to come up before. -/
theorem DWp.stepAll {muts : List Nat} {l : Array Bool} {i : Nat} {o : Oper} {rest : List Nat} {pr : List (Nat × Ents)} (hall : ((pr.map (·.1)).all fun k => waits .any ops k ops.size i) = true) (hmut : muts.contains i = true) (ho : ops[i]? = some o)
    (hg : guardB ops.toList E o.guard = some true)
    (h : Step P B n o (fun E' S' => DWp P B n ops muts (l.setIfInBounds i true) rest [] Q E' S') E S) : DWp P B n ops muts l (i :: rest) pr Q E S := by
  have hk : keptE ops i pr = [] := by
    unfold keptE
    rw [List.filter_eq_nil_iff]
    intro x hx
    have := List.all_eq_true.1 hall x.1 (List.mem_map.2 ⟨x, hx, rfl⟩)
    simp [this]
  refine DWp.step hmut ho hg ?_
  intro a w hS hA
  refine Oper.upon_monoQ ?_ (fun _ _ _ h => h) (h a w hS hA)
  rintro a' w' ⟨hb, E', S', hs, ha, q⟩
  refine ⟨hb, E', S', hs, ha, ?_⟩
  rw [hk]
  exact ⟨fun x hx => (nomatch hx), q⟩

/-- Two that make new rows may come up in either order. -/
theorem DWp.fork {muts : List Nat} {l : Array Bool} {m i j : Nat} {oi oj : Oper} {rest r1 r2 : List Nat} {pr : List (Nat × Ents)} (hr : Region.ready .any ops l = [i, j]) (hi : ops[i]? = some oi) (hj : ops[j]? = some oj)
    (hl1 : r1.length = rest.length) (hl2 : r2.length = rest.length) (hok1 : okFrom ops muts (l.setIfInBounds i true) r1 = true) (hok2 : okFrom ops muts (l.setIfInBounds j true) r2 = true)
    (hgi : guardB ops.toList E oi.guard = some true) (hgj : guardB ops.toList E oj.guard = some true)
    (h1 : Step P B n oi (fun E' S' => (∀ y ∈ S, y ∈ S') ∧ DWp P B n ops muts (l.setIfInBounds i true) r1 (keptE ops i pr) Q E' S') E S)
    (h2 : Step P B n oj (fun E' S' => (∀ y ∈ S, y ∈ S') ∧ DWp P B n ops muts (l.setIfInBounds j true) r2 (keptE ops j pr) Q E' S') E S) : DWp P B n ops muts l (m :: rest) pr Q E S := by
  intro hgo a w hS hA
  have one : ∀ (x : Nat) (o : Oper) (r : List Nat), x ∈ Region.ready .any ops l → ops[x]? = some o → r.length = rest.length → okFrom ops muts (l.setIfInBounds x true) r = true → guardB ops.toList E o.guard = some true →
      Step P B n o (fun E' S' => (∀ y ∈ S, y ∈ S') ∧ DWp P B n ops muts (l.setIfInBounds x true) r (keptE ops x pr) Q E' S') E S →
      wpOp P ops (Post B n Q w) x (fun a' w' => (∀ z ∈ kept .any ops x (proms pr), z.2 w') ∧ wpAnyP P .any ops (Post B n Q w) rest.length (l.setIfInBounds x true) (kept .any ops x (proms pr)) a' w') a w := by
    intro x o r hx ho hl hok hg h
    unfold wpOp
    simp only [ho]
    rw [if_pos (guardB_sound hA hg)]
    refine .inl (Oper.upon_monoQ ?_ ?_ (h a w hS hA))
    · rintro a' w' ⟨hb, E', S', hs, ha, hp, q⟩
      rw [kept_proms]
      have hp' : ∀ x' ∈ keptE ops x pr, ∀ y ∈ x'.2, y ∈ S' := fun x' hx' y hy => hp y (hgo.proms x' (List.mem_filter.1 hx').1 y hy)
      have := q ⟨hgo.closed.set hx, hok, hgo.sel, hp'⟩ a' w' hs ha
      rw [hl] at this
      refine ⟨fun x' hx' => ?_, wpAnyP_monoQ (fun _ _ _ => Post.later hb) _ _ _ _ _ this⟩
      rw [proms, List.mem_map] at hx'
      obtain ⟨y, hy, rfl⟩ := hx'
      exact fun z hz => hs.holds z (hp' y hy z hz)
    · intro _ _ _ h; exact h.elim
  refine ⟨fun e => (by rw [hr] at e; cases e), fun x hx => ?_⟩
  have hx' := hx
  rw [hr] at hx'
  rcases List.mem_cons.1 hx' with rfl | hx'
  · exact one _ oi r1 hx hi hl1 hok1 hgi h1
  · rw [List.mem_singleton] at hx'
    subst hx'
    exact one _ oj r2 hx hj hl2 hok2 hgj h2

/-- .. whose guard shuts it out. -/
theorem DWp.stepSkip {muts : List Nat} {l : Array Bool} {i : Nat} {o : Oper} {rest : List Nat} {pr : List (Nat × Ents)} (hmut : muts.contains i = true) (ho : ops[i]? = some o)
    (hg : guardB ops.toList E o.guard = some false) (hd : dstOk n o.dst = true)
    (h : DWp P B n ops muts (l.setIfInBounds i true) rest (keptE ops i pr) Q (putE E o.dst undef) S) : DWp P B n ops muts l (i :: rest) pr Q E S := by
  intro hgo a w hS hA
  obtain ⟨hr, hok'⟩ := okFrom_cons ho hgo.ok
  simp only [okAt, hmut, beq_iff_eq] at hr
  refine ⟨fun e => (by rw [hr] at e; cases e), fun j hj => ?_⟩
  rw [hr, List.mem_singleton] at hj
  subst hj
  unfold wpOp
  simp only [ho]
  rw [if_neg (by rw [guardB_sound hA hg]; simp)]
  have hp : ∀ x ∈ keptE ops j pr, ∀ y ∈ x.2, y ∈ S := fun x hx => hgo.proms x (List.mem_filter.1 hx).1
  rw [kept_proms]
  refine ⟨fun x hx => ?_, h ⟨hgo.closed.set (by rw [hr]; simp), hok', hgo.sel, hp⟩ _ w hS (hA.putE hd undef)⟩
  rw [proms, List.mem_map] at hx
  obtain ⟨y, hy, rfl⟩ := hx
  exact fun z hz => hS.holds z (hp y hy z hz)

theorem DWp.part {muts : List Nat} {l : Array Bool} {rest : List Nat} {pr : List (Nat × Ents)} (d : Nat) {b : Bool} (hd : E.get d = some (.bool b))
    (h1 : b = true → DWp P B n ops muts l rest pr Q ((d, .bool true) :: E) S) (h2 : b = false → DWp P B n ops muts l rest pr Q ((d, .bool false) :: E) S) : DWp P B n ops muts l rest pr Q E S := by
  intro hgo a w hS hA
  cases b with
  | true =>
    refine h1 rfl hgo a w hS ⟨fun k v hk => ?_, hA.size, hA.defers⟩
    rw [Env.get_cons] at hk
    split at hk
    · rename_i e; subst e; rw [← hk]; exact hA.reads _ _ hd
    · exact hA.reads k v hk
  | false =>
    refine h2 rfl hgo a w hS ⟨fun k v hk => ?_, hA.size, hA.defers⟩
    rw [Env.get_cons] at hk
    split at hk
    · rename_i e; subst e; rw [← hk]; exact hA.reads _ _ hd
    · exact hA.reads k v hk

theorem wpAnyP_addTrue {md : Region.Mode} {Q : Exit → Act → World → Prop} {S : World → Prop} (hS : ∀ w, S w) (i : Nat) : ∀ (k : Nat) (l : Array Bool) (pr : List Promise) (a : Act) (w : World),
    wpAnyP P md ops Q k l pr a w → wpAnyP P md ops Q k l ((i, S) :: pr) a w
  | 0, _, _, _, _, h => h
  | k + 1, l, pr, a, w, h => by
    refine ⟨h.1, fun j hj => wpOp_mono (fun a' w' h' => ?_) (h.2 j hj)⟩
    by_cases hw : waits md ops i ops.size j = true
    · have : kept md ops j ((i, S) :: pr) = kept md ops j pr := by simp [kept, hw]
      rw [this]; exact h'
    · rw [kept_cons_ne (by simpa using hw)]
      refine ⟨fun x hx => ?_, wpAnyP_addTrue hS i k _ _ _ _ h'.2⟩
      rcases List.mem_cons.1 hx with rfl | hx
      · exact hS w'
      · exact h'.1 x hx

theorem DWp.free {muts : List Nat} {l : Array Bool} {i : Nat} {o : Oper} {rest : List Nat} {pr : List (Nat × Ents)} {v : Value} (hmut : muts.contains i = false) (ho : ops[i]? = some o) (hd : dstOk n o.dst = true)
    (hl : ∀ a, Agree E n a → Leaves P ops (holdsF []) o v a)
    (h : DWp P B n ops muts (l.setIfInBounds i true) rest pr Q (putE E o.dst v) S) : DWp P B n ops muts l (i :: rest) pr Q E S := by
  refine DWp.take (F := []) hmut ho hd hl (by simp) ?_
  intro hg a w hS hA
  have := h ⟨hg.closed, hg.ok, hg.sel, fun x hx => hg.proms x (List.mem_cons_of_mem _ hx)⟩ a w hS hA
  exact wpAnyP_addTrue (fun w x hx => by cases hx) i _ _ _ _ _ this

/-- Operations without memory, as far as they go. -/
def devs (P : Program) (n : Nat) (ops : List Oper) (muts : List Nat) : Nat → Array Bool → List Nat → Env → Option (Array Bool × List Nat × Env)
  | 0, l, r, E => some (l, r, E)
  | k + 1, l, i :: r, E => match muts.contains i, ops[i]? with
    | false, some o => match guardB ops E o.guard, dstOk n o.dst with
      | some true, true => match ev P E o.op with
        | some v => devs P n ops muts k (l.setIfInBounds i true) r (putE E o.dst v)
        | none => none
      | some false, true => devs P n ops muts k (l.setIfInBounds i true) r (putE E o.dst undef)
      | _, _ => none
    | _, _ => none
  | _ + 1, _, [], _ => none

theorem DWp.evs {muts : List Nat} {pr : List (Nat × Ents)} (k : Nat) {l l' : Array Bool} {r r' : List Nat} {E' : Env} (hv : devs P n ops.toList muts k l r E = some (l', r', E'))
    (h : DWp P B n ops muts l' r' pr Q E' S) : DWp P B n ops muts l r pr Q E S := by
  induction k generalizing l r E with
  | zero => simp [devs] at hv; obtain ⟨rfl, rfl, rfl⟩ := hv; exact h
  | succ k ih =>
    cases r with
    | nil => simp [devs] at hv
    | cons i r =>
      simp only [devs] at hv
      split at hv
      · rename_i o hm ho
        have ho' : ops[i]? = some o := by simpa using ho
        split at hv
        · rename_i hg hd
          split at hv
          · rename_i v he
            exact DWp.free hm ho' hd (fun a hA => .inl ⟨guardB_sound hA hg, fun w _ => ev_sound hA he w⟩) (ih hv)
          · cases hv
        · rename_i hg hd
          exact DWp.free hm ho' hd (fun a hA => .inr ⟨guardB_sound hA hg, rfl⟩) (ih hv)
        · cases hv
      · cases hv

theorem DWp.g {muts : List Nat} {l : Array Bool} {i : Nat} {o : Oper} {rest : List Nat} {pr : List (Nat × Ents)} {v : Value} (hmut : muts.contains i = false) (ho : ops[i]? = some o)
    (hg : guardB ops.toList E o.guard = some true) (hd : dstOk n o.dst = true) (hv : Gives P n [] E o v)
    (h : DWp P B n ops muts (l.setIfInBounds i true) rest pr Q (putE E o.dst v) S) : DWp P B n ops muts l (i :: rest) pr Q E S :=
  DWp.free hmut ho hd (fun a hA => .inl ⟨guardB_sound hA hg, fun w hw => hv a w hw hA⟩) h
end
end Go.Lg
