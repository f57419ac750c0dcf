/- Three growing operations of a drawn region, ready in any order. -/
import Derived.Test.YtlfhhkdjahcglaaGreatDoorLgM2x22d9
namespace Go.Lg
open Go.RowKit (Below)
section
variable {P : Program} {B n : Nat} {ops : Array Oper} {Q : Exit → Env → Ents → Prop} {E : Env} {S : Ents}
/-- What is asked of one of them. -/
def ForkAt (P : Program) (B n : Nat) (ops : Array Oper) (Q : Exit → Env → Ents → Prop) (muts : List Nat) (l : Array Bool) (len : Nat) (pr : List (Nat × Ents)) (E : Env) (S : Ents) (x : Nat) : Prop :=
  ∃ o r, ops[x]? = some o ∧ r.length = len ∧ okFrom ops muts (l.setIfInBounds x true) r = true ∧ guardB ops.toList E o.guard = some true ∧
    Step P B n o (fun E' S' => (∀ y ∈ S, y ∈ S') ∧ DWp P B n ops muts (l.setIfInBounds x true) r (keptE ops x pr) Q E' S') E S
theorem DWp.permS {muts : List Nat} {l : Array Bool} {rest : List Nat} {pr : List (Nat × Ents)} {S' : Ents} (h : S.Perm S') (hc : DWp P B n ops muts l rest pr Q E S') : DWp P B n ops muts l rest pr Q E S :=
  fun hgo a w hS hA => hc ⟨hgo.closed, hgo.ok, hgo.sel, fun x hx y hy => h.mem_iff.1 (hgo.proms x hx y hy)⟩ a w (hS.perm h) hA
theorem Step.permS {o : Oper} {K : Env → Ents → Prop} {S' : Ents} (h : S.Perm S') (hs : Step P B n o K E S') : Step P B n o K E S :=
  fun a w hS hA => hs a w (hS.perm h) hA
end
end Go.Lg
namespace Go.Lg
/-- Segments of memory, laid in another order. -/
theorem permFold {α : Type} {l m : List (List α)} (h : l.Perm m) (R : List α) : (l.foldr (· ++ ·) R).Perm (m.foldr (· ++ ·) R) := by
  induction h with
  | nil => exact .refl _
  | cons x _ ih => exact ih.append_left x
  | swap x y l =>
    simp only [List.foldr_cons]
    exact List.perm_append_comm_assoc y x _
  | trans _ _ h1 h2 => exact h1.trans h2
theorem permBy (segs : List Ents) (R : Ents) (p q : List Nat) (h : p.Perm q) : ((p.map (fun i => segs.getD i [])).foldr (· ++ ·) R).Perm ((q.map (fun i => segs.getD i [])).foldr (· ++ ·) R) := permFold (h.map _) R

section
variable {P : Program} {B n : Nat} {ops : Array Oper} {Q : Exit → Env → Ents → Prop} {E : Env} {S : Ents}
def ForkTo (P : Program) (B n : Nat) (ops : Array Oper) (Q : Exit → Env → Ents → Prop) (muts : List Nat) (l : Array Bool) (len : Nat) (pr : List (Nat × Ents)) (E : Env) (S : Ents) (x : Nat) : Prop :=
  ∃ o r, ops[x]? = some o ∧ r.length = len ∧ okFrom ops muts (l.setIfInBounds x true) r = true ∧ guardB ops.toList E o.guard = some true ∧
    Step P B n o (fun E' S' => (∀ y ∈ keptE ops x pr, ∀ z ∈ y.2, z ∈ S') ∧ DWp P B n ops muts (l.setIfInBounds x true) r (keptE ops x pr) Q E' S') E S
theorem DWp.forkTo {muts : List Nat} {l : Array Bool} {m : Nat} (is : List Nat) {rest : List Nat} {pr : List (Nat × Ents)} (hr : Region.ready .any ops l = is) (hne : is ≠ [])
    (h : ∀ x ∈ is, ForkTo P B n ops Q muts l rest.length pr E S x) : DWp P B n ops muts l (m :: rest) pr Q E S := by
  intro hgo a w hS hA
  refine ⟨fun e => absurd (hr.symm.trans e) hne, fun x hx => ?_⟩
  obtain ⟨o, r, ho, hl, hok, hg, h⟩ := h x (by rw [← hr]; exact hx)
  unfold wpOp
  simp only [ho]
  rw [if_pos (guardB_sound hA hg)]
  refine .inl (Oper.upon_monoQ ?_ ?_ (h a w hS hA))
  · rintro a' w' ⟨hb, E', S', hs, ha, hp', q⟩
    rw [kept_proms]
    have := q ⟨hgo.closed.set hx, hok, hgo.sel, hp'⟩ a' w' hs ha
    rw [hl] at this
    refine ⟨fun x' hx' => ?_, wpAnyP_monoQ (fun _ _ _ => Post.later hb) _ _ _ _ _ this⟩
    rw [proms, List.mem_map] at hx'
    obtain ⟨y, hy, rfl⟩ := hx'
    exact fun z hz => hs.holds z (hp' y hy z hz)
  · intro _ _ _ h; exact h.elim
end
end Go.Lg
