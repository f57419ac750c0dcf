/- What functions of the given program do, one after the other, told by that layer. -/
import Derived.Test.YtlfhhkdjahcglaaGreatDoorKM5xa471
import Derived.Test.YtlfhhkdjahcglaaGreatDoorLgM2x22d9
import Derived.Test.YtlfhhkdjahcglaaGreatDoorKM4x9d29
import Derived.Test.YtlfhhkdjahcglaaGreatDoorEHead
namespace Go.Proofs.C
open Go.Lg
set_option maxRecDepth 100000

/-- A command. -/
@[ext] structure Hop where
  kind : Int
  node : Int
  user : Int
  delay : Int
  id : List UInt8

def Hop.cells (x : Hop) : List Value := [.int .i64 x.kind, .int .i64 x.node, .int .i64 x.user, .int .i64 x.delay, .string (str x.id)]
theorem Hop.len (x : Hop) : x.cells.length = 5 := rfl
/-- Which commands may be. -/
def hopP (x : Hop) : Prop :=
  (x.kind = 1 ∧ 0 ≤ x.node ∧ x.node ≤ 31 ∧ 0 ≤ x.delay ∧ x.delay ≤ 4096 ∧ x.user = 0 ∧ x.id.length = 0) ∨
  (x.kind = 2 ∧ 0 ≤ x.user ∧ x.user ≤ 63 ∧ 0 ≤ x.delay ∧ x.delay ≤ 4096 ∧ x.node = 0 ∧ x.id.length = 16) ∨
  (x.kind = 3 ∧ x.id.length = 16 ∧ x.node = 0 ∧ x.user = 0 ∧ x.delay = 0) ∨
  (x.kind = 4 ∧ x.node = 0 ∧ x.user = 0 ∧ x.delay = 0 ∧ x.id.length = 0)
instance (x : Hop) : Decidable (hopP x) := by unfold hopP; infer_instance

def hopE (x : Hop) : Int := if hopP x then 0 else 70
theorem hopE_yes {x : Hop} (h : hopP x) : hopE x = 0 := if_pos h
theorem hopE_no {x : Hop} (h : ¬ hopP x) : hopE x = 70 := if_neg h

def eqHop (x y : Hop) : Bool := decide (x.kind = y.kind) && (decide (x.node = y.node) && (decide (x.user = y.user) && (decide (x.delay = y.delay) && (decide (x.id = y.id) && true))))
theorem eqHop_iff {x y : Hop} : eqHop x y = true ↔ x = y := by
  unfold eqHop
  obtain ⟨a, b, c, d, e⟩ := x
  obtain ⟨a', b', c', d', e'⟩ := y
  simp

theorem hopG : Tryz.prog.eqGuardType Tryz.prog.depth 75 = false := by decide +kernel
theorem nil_len {l : List UInt8} : l = [] ↔ l.length = 0 := by cases l <;> simp

section
variable {B : Nat} {S R : Ents} {Q : Value → Ents → Prop}

theorem withinC {n most : Int} (h : Q (.bool (decide (0 ≤ n ∧ n ≤ most))) S) : CallWp Tryz.prog B 146 #[.int .i64 n, .int .i64 most] Q S := by
  refine CallWp.enter (args := [_, _]) Tryz.func146 rfl Tryz.ntmps146 rfl ?_
  refine Wp.seq (Wp.region ?_)
  refine OWp.evs 1 rfl ?_
  refine OWp.nil ?_
  refine Wp.seq (Wp.region ?_)
  refine OWp.evs 3 rfl ?_
  refine OWp.part 7 rfl (fun h1 => ?_) (fun h1 => ?_)
  · have h1 := of_decide_eq_true h1
    refine OWp.evs 5 rfl ?_
    refine OWp.nil ?_
    refine Wp.ret ⟨trivial, _, ⟨_, _, rfl, rfl, rfl⟩, ?_⟩
    rw [decide_eq_decide.2 (show 0 ≤ n ∧ n ≤ most ↔ n ≤ most by omega)] at h; exact h
  have h1 := of_decide_eq_false h1
  refine OWp.evs 5 rfl ?_
  refine OWp.nil ?_
  refine Wp.ret ⟨trivial, _, ⟨_, _, rfl, rfl, rfl⟩, ?_⟩
  rw [decide_eq_false (by omega)] at h; exact h
theorem checkC {x : Hop} (h : Q (.int .i64 (hopE x)) S) : CallWp Tryz.prog B 107 #[.agg x.cells.toArray] Q S := by
  have hno : ¬ hopP x → Q (.int .i64 70) S := fun e => by rw [hopE_no e] at h; exact h
  have hyes : hopP x → Q (.int .i64 0) S := fun e => by rw [hopE_yes e] at h; exact h
  clear h
  unfold hopP at hno hyes
  refine CallWp.enter (args := [_]) Tryz.func107 rfl Tryz.ntmps107 rfl ?_
  refine Wp.seq (Wp.region ?_)
  refine OWp.step rfl (Step.box rfl rfl rfl ?_); intro L1 hBL1 hLL1
  refine OWp.evs 1 rfl ?_
  refine OWp.nil ?_
  refine Wp.seq (Wp.region ?_)
  refine OWp.step rfl (Step.alloc rfl rfl rfl ?_); intro L3 hBL3 hLL3
  refine OWp.nil ?_
  refine Wp.seq (Wp.region ?_)
  refine OWp.evs 1 rfl ?_
  first | refine OWp.load (List.Mem.head _) rfl rfl rfl rfl rfl ?_ | refine OWp.load (List.Mem.tail _ (List.Mem.head _)) rfl rfl rfl rfl rfl ?_ | refine OWp.load (List.Mem.tail _ (List.Mem.tail _ (List.Mem.head _))) rfl rfl rfl rfl rfl ?_ | refine OWp.load (List.Mem.tail _ (List.Mem.tail _ (List.Mem.tail _ (List.Mem.head _)))) rfl rfl rfl rfl rfl ?_ | refine OWp.load (List.Mem.tail _ (List.Mem.tail _ (List.Mem.tail _ (List.Mem.tail _ (List.Mem.head _))))) rfl rfl rfl rfl rfl ?_ | refine OWp.load (List.Mem.tail _ (List.Mem.tail _ (List.Mem.tail _ (List.Mem.tail _ (List.Mem.tail _ (List.Mem.head _)))))) rfl rfl rfl rfl rfl ?_
  refine OWp.step rfl (Step.call rfl rfl rfl rfl rfl rfl ((withinC ?_)))
  refine OWp.evs 1 rfl ?_
  refine OWp.nil ?_
  refine Wp.seq ?_
  refine Wp.seq (Wp.region ?_)
  refine OWp.evs 1 rfl ?_
  first | refine OWp.load (List.Mem.head _) rfl rfl rfl rfl rfl ?_ | refine OWp.load (List.Mem.tail _ (List.Mem.head _)) rfl rfl rfl rfl rfl ?_ | refine OWp.load (List.Mem.tail _ (List.Mem.tail _ (List.Mem.head _))) rfl rfl rfl rfl rfl ?_ | refine OWp.load (List.Mem.tail _ (List.Mem.tail _ (List.Mem.tail _ (List.Mem.head _)))) rfl rfl rfl rfl rfl ?_ | refine OWp.load (List.Mem.tail _ (List.Mem.tail _ (List.Mem.tail _ (List.Mem.tail _ (List.Mem.head _))))) rfl rfl rfl rfl rfl ?_ | refine OWp.load (List.Mem.tail _ (List.Mem.tail _ (List.Mem.tail _ (List.Mem.tail _ (List.Mem.tail _ (List.Mem.head _)))))) rfl rfl rfl rfl rfl ?_
  refine OWp.nil ?_
  refine Wp.block ?_
  refine Wp.seq (Wp.region ?_)
  refine OWp.evs 2 rfl ?_
  refine OWp.nil ?_
  refine Wp.cond rfl (fun h1 => ?_) (fun h1 => ?_)
  · have h1 := of_decide_eq_true h1
    refine Wp.seq (Wp.region ?_)
    refine OWp.evs 1 rfl ?_
    first | refine OWp.load (List.Mem.head _) rfl rfl rfl rfl rfl ?_ | refine OWp.load (List.Mem.tail _ (List.Mem.head _)) rfl rfl rfl rfl rfl ?_ | refine OWp.load (List.Mem.tail _ (List.Mem.tail _ (List.Mem.head _))) rfl rfl rfl rfl rfl ?_ | refine OWp.load (List.Mem.tail _ (List.Mem.tail _ (List.Mem.tail _ (List.Mem.head _)))) rfl rfl rfl rfl rfl ?_ | refine OWp.load (List.Mem.tail _ (List.Mem.tail _ (List.Mem.tail _ (List.Mem.tail _ (List.Mem.head _))))) rfl rfl rfl rfl rfl ?_ | refine OWp.load (List.Mem.tail _ (List.Mem.tail _ (List.Mem.tail _ (List.Mem.tail _ (List.Mem.tail _ (List.Mem.head _)))))) rfl rfl rfl rfl rfl ?_
    refine OWp.evs 1 rfl ?_
    first | refine OWp.load (List.Mem.head _) rfl rfl rfl rfl rfl ?_ | refine OWp.load (List.Mem.tail _ (List.Mem.head _)) rfl rfl rfl rfl rfl ?_ | refine OWp.load (List.Mem.tail _ (List.Mem.tail _ (List.Mem.head _))) rfl rfl rfl rfl rfl ?_ | refine OWp.load (List.Mem.tail _ (List.Mem.tail _ (List.Mem.tail _ (List.Mem.head _)))) rfl rfl rfl rfl rfl ?_ | refine OWp.load (List.Mem.tail _ (List.Mem.tail _ (List.Mem.tail _ (List.Mem.tail _ (List.Mem.head _))))) rfl rfl rfl rfl rfl ?_ | refine OWp.load (List.Mem.tail _ (List.Mem.tail _ (List.Mem.tail _ (List.Mem.tail _ (List.Mem.tail _ (List.Mem.head _)))))) rfl rfl rfl rfl rfl ?_
    refine OWp.g rfl rfl (Gives.build rfl rfl) ?_
    refine OWp.step rfl (Step.store 0 rfl rfl rfl rfl rfl (by assumption) rfl (Nat.le_of_ble_eq_true rfl) (Unfz.zero _) rfl rfl ?_)
    refine OWp.nil ?_
    refine Wp.region ?_
    refine OWp.evs 2 rfl ?_
    refine OWp.part 18 rfl (fun h2 => ?_) (fun h2 => ?_)
    · have h2 := of_decide_eq_true h2
      refine OWp.evs 1 rfl ?_
      first | refine OWp.load (List.Mem.head _) rfl rfl rfl rfl rfl ?_ | refine OWp.load (List.Mem.tail _ (List.Mem.head _)) rfl rfl rfl rfl rfl ?_ | refine OWp.load (List.Mem.tail _ (List.Mem.tail _ (List.Mem.head _))) rfl rfl rfl rfl rfl ?_ | refine OWp.load (List.Mem.tail _ (List.Mem.tail _ (List.Mem.tail _ (List.Mem.head _)))) rfl rfl rfl rfl rfl ?_ | refine OWp.load (List.Mem.tail _ (List.Mem.tail _ (List.Mem.tail _ (List.Mem.tail _ (List.Mem.head _))))) rfl rfl rfl rfl rfl ?_ | refine OWp.load (List.Mem.tail _ (List.Mem.tail _ (List.Mem.tail _ (List.Mem.tail _ (List.Mem.tail _ (List.Mem.head _)))))) rfl rfl rfl rfl rfl ?_
      refine OWp.step rfl (Step.call rfl rfl rfl rfl rfl rfl ((withinC ?_)))
      refine OWp.evs 2 rfl ?_
      refine OWp.nil ?_
      refine Wp.seq (Wp.region ?_)
      refine OWp.evs 1 rfl ?_
      first | refine OWp.load (List.Mem.head _) rfl rfl rfl rfl rfl ?_ | refine OWp.load (List.Mem.tail _ (List.Mem.head _)) rfl rfl rfl rfl rfl ?_ | refine OWp.load (List.Mem.tail _ (List.Mem.tail _ (List.Mem.head _))) rfl rfl rfl rfl rfl ?_ | refine OWp.load (List.Mem.tail _ (List.Mem.tail _ (List.Mem.tail _ (List.Mem.head _)))) rfl rfl rfl rfl rfl ?_ | refine OWp.load (List.Mem.tail _ (List.Mem.tail _ (List.Mem.tail _ (List.Mem.tail _ (List.Mem.head _))))) rfl rfl rfl rfl rfl ?_ | refine OWp.load (List.Mem.tail _ (List.Mem.tail _ (List.Mem.tail _ (List.Mem.tail _ (List.Mem.tail _ (List.Mem.head _)))))) rfl rfl rfl rfl rfl ?_
      refine OWp.evs 1 rfl ?_
      refine OWp.step rfl (Step.store 0 rfl rfl rfl rfl rfl (by assumption) rfl (Nat.le_of_ble_eq_true rfl) (Unfz.zero _) rfl rfl ?_)
      refine OWp.nil ?_
      refine Wp.seq ?_
      refine Wp.seq (Wp.region ?_)
      refine OWp.evs 3 rfl ?_
      refine OWp.part 63 rfl (fun h3 => ?_) (fun h3 => ?_)
      · have h3 := ndT h3
        refine OWp.evs 4 rfl ?_
        refine OWp.nil ?_
        refine Wp.cond rfl (fun _ => ?_) (fun c => nomatch c)
        refine Wp.drop (S' := S) subl ?_
        refine Wp.seq (Wp.region ?_)
        refine OWp.evs 1 rfl ?_
        refine OWp.nil ?_
        refine Wp.ret ⟨trivial, _, ⟨_, _, rfl, rfl, rfl⟩, ?_⟩
        exact hno (by omega)
      have h3 := ndF h3
      first | refine OWp.load (List.Mem.head _) rfl rfl rfl rfl rfl ?_ | refine OWp.load (List.Mem.tail _ (List.Mem.head _)) rfl rfl rfl rfl rfl ?_ | refine OWp.load (List.Mem.tail _ (List.Mem.tail _ (List.Mem.head _))) rfl rfl rfl rfl rfl ?_ | refine OWp.load (List.Mem.tail _ (List.Mem.tail _ (List.Mem.tail _ (List.Mem.head _)))) rfl rfl rfl rfl rfl ?_ | refine OWp.load (List.Mem.tail _ (List.Mem.tail _ (List.Mem.tail _ (List.Mem.tail _ (List.Mem.head _))))) rfl rfl rfl rfl rfl ?_ | refine OWp.load (List.Mem.tail _ (List.Mem.tail _ (List.Mem.tail _ (List.Mem.tail _ (List.Mem.tail _ (List.Mem.head _)))))) rfl rfl rfl rfl rfl ?_
      first | refine OWp.load (List.Mem.head _) rfl rfl rfl rfl rfl ?_ | refine OWp.load (List.Mem.tail _ (List.Mem.head _)) rfl rfl rfl rfl rfl ?_ | refine OWp.load (List.Mem.tail _ (List.Mem.tail _ (List.Mem.head _))) rfl rfl rfl rfl rfl ?_ | refine OWp.load (List.Mem.tail _ (List.Mem.tail _ (List.Mem.tail _ (List.Mem.head _)))) rfl rfl rfl rfl rfl ?_ | refine OWp.load (List.Mem.tail _ (List.Mem.tail _ (List.Mem.tail _ (List.Mem.tail _ (List.Mem.head _))))) rfl rfl rfl rfl rfl ?_ | refine OWp.load (List.Mem.tail _ (List.Mem.tail _ (List.Mem.tail _ (List.Mem.tail _ (List.Mem.tail _ (List.Mem.head _)))))) rfl rfl rfl rfl rfl ?_
      refine OWp.g rfl rfl (Gives.neqStruct (r := eqHop x ⟨x.kind, x.node, 0, x.delay, []⟩) 10 rfl rfl rfl rfl hopG (by rfl)) ?_
      refine OWp.evs 1 rfl ?_
      refine OWp.nil ?_
      refine Wp.cond rfl (fun h4 => ?_) (fun h4 => ?_)
      · skip
        refine Wp.drop (S' := S) subl ?_
        refine Wp.seq (Wp.region ?_)
        refine OWp.evs 1 rfl ?_
        refine OWp.nil ?_
        refine Wp.ret ⟨trivial, _, ⟨_, _, rfl, rfl, rfl⟩, ?_⟩
        refine hno fun hp => ?_
        have : eqHop x ⟨x.kind, x.node, 0, x.delay, []⟩ = true := eqHop_iff.2 (Hop.ext rfl rfl (by show x.user = 0; omega) rfl (nil_len.2 (by omega)))
        rw [this] at h4
        cases h4
      refine Wp.skip ?_
      refine Wp.drop (S' := S) subl ?_
      refine Wp.seq (Wp.region ?_)
      refine OWp.evs 1 rfl ?_
      refine OWp.nil ?_
      refine Wp.ret ⟨trivial, _, ⟨_, _, rfl, rfl, rfl⟩, ?_⟩
      have : eqHop x ⟨x.kind, x.node, 0, x.delay, []⟩ = true := by simpa using h4
      have := eqHop_iff.1 this
      have e3 := congrArg Hop.user this
      have e5 := nil_len.1 (congrArg Hop.id this)
      simp only at e3
      exact hyes (by omega)
    have h2 := of_decide_eq_false h2
    refine OWp.evs 5 rfl ?_
    refine OWp.nil ?_
    refine Wp.seq (Wp.region ?_)
    refine OWp.evs 1 rfl ?_
    first | refine OWp.load (List.Mem.head _) rfl rfl rfl rfl rfl ?_ | refine OWp.load (List.Mem.tail _ (List.Mem.head _)) rfl rfl rfl rfl rfl ?_ | refine OWp.load (List.Mem.tail _ (List.Mem.tail _ (List.Mem.head _))) rfl rfl rfl rfl rfl ?_ | refine OWp.load (List.Mem.tail _ (List.Mem.tail _ (List.Mem.tail _ (List.Mem.head _)))) rfl rfl rfl rfl rfl ?_ | refine OWp.load (List.Mem.tail _ (List.Mem.tail _ (List.Mem.tail _ (List.Mem.tail _ (List.Mem.head _))))) rfl rfl rfl rfl rfl ?_ | refine OWp.load (List.Mem.tail _ (List.Mem.tail _ (List.Mem.tail _ (List.Mem.tail _ (List.Mem.tail _ (List.Mem.head _)))))) rfl rfl rfl rfl rfl ?_
    refine OWp.evs 1 rfl ?_
    refine OWp.step rfl (Step.store 0 rfl rfl rfl rfl rfl (by assumption) rfl (Nat.le_of_ble_eq_true rfl) (Unfz.zero _) rfl rfl ?_)
    refine OWp.nil ?_
    refine Wp.seq ?_
    refine Wp.drop (S' := S) subl ?_
    refine Wp.seq (Wp.region ?_)
    refine OWp.evs 7 rfl ?_
    refine OWp.nil ?_
    refine Wp.cond rfl (fun _ => ?_) (fun c => nomatch c)
    refine Wp.seq (Wp.region ?_)
    refine OWp.evs 1 rfl ?_
    refine OWp.nil ?_
    refine Wp.ret ⟨trivial, _, ⟨_, _, rfl, rfl, rfl⟩, ?_⟩
    exact hno (by omega)
  have h1 := of_decide_eq_false h1
  refine Wp.seq (Wp.region ?_)
  refine OWp.evs 2 rfl ?_
  refine OWp.nil ?_
  refine Wp.cond rfl (fun h1b => ?_) (fun h1b => ?_)
  · have h1b := of_decide_eq_true h1b
    refine Wp.seq (Wp.region ?_)
    refine OWp.evs 1 rfl ?_
    first | refine OWp.load (List.Mem.head _) rfl rfl rfl rfl rfl ?_ | refine OWp.load (List.Mem.tail _ (List.Mem.head _)) rfl rfl rfl rfl rfl ?_ | refine OWp.load (List.Mem.tail _ (List.Mem.tail _ (List.Mem.head _))) rfl rfl rfl rfl rfl ?_ | refine OWp.load (List.Mem.tail _ (List.Mem.tail _ (List.Mem.tail _ (List.Mem.head _)))) rfl rfl rfl rfl rfl ?_ | refine OWp.load (List.Mem.tail _ (List.Mem.tail _ (List.Mem.tail _ (List.Mem.tail _ (List.Mem.head _))))) rfl rfl rfl rfl rfl ?_ | refine OWp.load (List.Mem.tail _ (List.Mem.tail _ (List.Mem.tail _ (List.Mem.tail _ (List.Mem.tail _ (List.Mem.head _)))))) rfl rfl rfl rfl rfl ?_
    refine OWp.evs 1 rfl ?_
    first | refine OWp.load (List.Mem.head _) rfl rfl rfl rfl rfl ?_ | refine OWp.load (List.Mem.tail _ (List.Mem.head _)) rfl rfl rfl rfl rfl ?_ | refine OWp.load (List.Mem.tail _ (List.Mem.tail _ (List.Mem.head _))) rfl rfl rfl rfl rfl ?_ | refine OWp.load (List.Mem.tail _ (List.Mem.tail _ (List.Mem.tail _ (List.Mem.head _)))) rfl rfl rfl rfl rfl ?_ | refine OWp.load (List.Mem.tail _ (List.Mem.tail _ (List.Mem.tail _ (List.Mem.tail _ (List.Mem.head _))))) rfl rfl rfl rfl rfl ?_ | refine OWp.load (List.Mem.tail _ (List.Mem.tail _ (List.Mem.tail _ (List.Mem.tail _ (List.Mem.tail _ (List.Mem.head _)))))) rfl rfl rfl rfl rfl ?_
    refine OWp.evs 1 rfl ?_
    first | refine OWp.load (List.Mem.head _) rfl rfl rfl rfl rfl ?_ | refine OWp.load (List.Mem.tail _ (List.Mem.head _)) rfl rfl rfl rfl rfl ?_ | refine OWp.load (List.Mem.tail _ (List.Mem.tail _ (List.Mem.head _))) rfl rfl rfl rfl rfl ?_ | refine OWp.load (List.Mem.tail _ (List.Mem.tail _ (List.Mem.tail _ (List.Mem.head _)))) rfl rfl rfl rfl rfl ?_ | refine OWp.load (List.Mem.tail _ (List.Mem.tail _ (List.Mem.tail _ (List.Mem.tail _ (List.Mem.head _))))) rfl rfl rfl rfl rfl ?_ | refine OWp.load (List.Mem.tail _ (List.Mem.tail _ (List.Mem.tail _ (List.Mem.tail _ (List.Mem.tail _ (List.Mem.head _)))))) rfl rfl rfl rfl rfl ?_
    refine OWp.g rfl rfl (Gives.build rfl rfl) ?_
    refine OWp.step rfl (Step.store 0 rfl rfl rfl rfl rfl (by assumption) rfl (Nat.le_of_ble_eq_true rfl) (Unfz.zero _) rfl rfl ?_)
    refine OWp.nil ?_
    refine Wp.region ?_
    refine OWp.evs 2 rfl ?_
    refine OWp.part 33 rfl (fun h2 => ?_) (fun h2 => ?_)
    · have h2 := of_decide_eq_true h2
      refine OWp.evs 1 rfl ?_
      first | refine OWp.load (List.Mem.head _) rfl rfl rfl rfl rfl ?_ | refine OWp.load (List.Mem.tail _ (List.Mem.head _)) rfl rfl rfl rfl rfl ?_ | refine OWp.load (List.Mem.tail _ (List.Mem.tail _ (List.Mem.head _))) rfl rfl rfl rfl rfl ?_ | refine OWp.load (List.Mem.tail _ (List.Mem.tail _ (List.Mem.tail _ (List.Mem.head _)))) rfl rfl rfl rfl rfl ?_ | refine OWp.load (List.Mem.tail _ (List.Mem.tail _ (List.Mem.tail _ (List.Mem.tail _ (List.Mem.head _))))) rfl rfl rfl rfl rfl ?_ | refine OWp.load (List.Mem.tail _ (List.Mem.tail _ (List.Mem.tail _ (List.Mem.tail _ (List.Mem.tail _ (List.Mem.head _)))))) rfl rfl rfl rfl rfl ?_
      refine OWp.step rfl (Step.call rfl rfl rfl rfl rfl rfl ((withinC ?_)))
      refine OWp.evs 2 rfl ?_
      refine OWp.part 38 rfl (fun h3 => ?_) (fun h3 => ?_)
      · have h3 := of_decide_eq_true h3
        refine OWp.evs 1 rfl ?_
        first | refine OWp.load (List.Mem.head _) rfl rfl rfl rfl rfl ?_ | refine OWp.load (List.Mem.tail _ (List.Mem.head _)) rfl rfl rfl rfl rfl ?_ | refine OWp.load (List.Mem.tail _ (List.Mem.tail _ (List.Mem.head _))) rfl rfl rfl rfl rfl ?_ | refine OWp.load (List.Mem.tail _ (List.Mem.tail _ (List.Mem.tail _ (List.Mem.head _)))) rfl rfl rfl rfl rfl ?_ | refine OWp.load (List.Mem.tail _ (List.Mem.tail _ (List.Mem.tail _ (List.Mem.tail _ (List.Mem.head _))))) rfl rfl rfl rfl rfl ?_ | refine OWp.load (List.Mem.tail _ (List.Mem.tail _ (List.Mem.tail _ (List.Mem.tail _ (List.Mem.tail _ (List.Mem.head _)))))) rfl rfl rfl rfl rfl ?_
        refine OWp.evs 4 rfl ?_
        refine OWp.nil ?_
        refine Wp.seq (Wp.region ?_)
        refine OWp.evs 1 rfl ?_
        first | refine OWp.load (List.Mem.head _) rfl rfl rfl rfl rfl ?_ | refine OWp.load (List.Mem.tail _ (List.Mem.head _)) rfl rfl rfl rfl rfl ?_ | refine OWp.load (List.Mem.tail _ (List.Mem.tail _ (List.Mem.head _))) rfl rfl rfl rfl rfl ?_ | refine OWp.load (List.Mem.tail _ (List.Mem.tail _ (List.Mem.tail _ (List.Mem.head _)))) rfl rfl rfl rfl rfl ?_ | refine OWp.load (List.Mem.tail _ (List.Mem.tail _ (List.Mem.tail _ (List.Mem.tail _ (List.Mem.head _))))) rfl rfl rfl rfl rfl ?_ | refine OWp.load (List.Mem.tail _ (List.Mem.tail _ (List.Mem.tail _ (List.Mem.tail _ (List.Mem.tail _ (List.Mem.head _)))))) rfl rfl rfl rfl rfl ?_
        refine OWp.evs 1 rfl ?_
        refine OWp.step rfl (Step.store 0 rfl rfl rfl rfl rfl (by assumption) rfl (Nat.le_of_ble_eq_true rfl) (Unfz.zero _) rfl rfl ?_)
        refine OWp.nil ?_
        refine Wp.seq ?_
        refine Wp.seq (Wp.region ?_)
        refine OWp.evs 3 rfl ?_
        refine OWp.part 63 rfl (fun h4 => ?_) (fun h4 => ?_)
        · have h4 := ndT h4
          refine OWp.evs 4 rfl ?_
          refine OWp.nil ?_
          refine Wp.cond rfl (fun _ => ?_) (fun c => nomatch c)
          refine Wp.drop (S' := S) subl ?_
          refine Wp.seq (Wp.region ?_)
          refine OWp.evs 1 rfl ?_
          refine OWp.nil ?_
          refine Wp.ret ⟨trivial, _, ⟨_, _, rfl, rfl, rfl⟩, ?_⟩
          exact hno (by omega)
        have h4 := ndF h4
        first | refine OWp.load (List.Mem.head _) rfl rfl rfl rfl rfl ?_ | refine OWp.load (List.Mem.tail _ (List.Mem.head _)) rfl rfl rfl rfl rfl ?_ | refine OWp.load (List.Mem.tail _ (List.Mem.tail _ (List.Mem.head _))) rfl rfl rfl rfl rfl ?_ | refine OWp.load (List.Mem.tail _ (List.Mem.tail _ (List.Mem.tail _ (List.Mem.head _)))) rfl rfl rfl rfl rfl ?_ | refine OWp.load (List.Mem.tail _ (List.Mem.tail _ (List.Mem.tail _ (List.Mem.tail _ (List.Mem.head _))))) rfl rfl rfl rfl rfl ?_ | refine OWp.load (List.Mem.tail _ (List.Mem.tail _ (List.Mem.tail _ (List.Mem.tail _ (List.Mem.tail _ (List.Mem.head _)))))) rfl rfl rfl rfl rfl ?_
        first | refine OWp.load (List.Mem.head _) rfl rfl rfl rfl rfl ?_ | refine OWp.load (List.Mem.tail _ (List.Mem.head _)) rfl rfl rfl rfl rfl ?_ | refine OWp.load (List.Mem.tail _ (List.Mem.tail _ (List.Mem.head _))) rfl rfl rfl rfl rfl ?_ | refine OWp.load (List.Mem.tail _ (List.Mem.tail _ (List.Mem.tail _ (List.Mem.head _)))) rfl rfl rfl rfl rfl ?_ | refine OWp.load (List.Mem.tail _ (List.Mem.tail _ (List.Mem.tail _ (List.Mem.tail _ (List.Mem.head _))))) rfl rfl rfl rfl rfl ?_ | refine OWp.load (List.Mem.tail _ (List.Mem.tail _ (List.Mem.tail _ (List.Mem.tail _ (List.Mem.tail _ (List.Mem.head _)))))) rfl rfl rfl rfl rfl ?_
        refine OWp.g rfl rfl (Gives.neqStruct (r := eqHop x ⟨x.kind, 0, x.user, x.delay, x.id⟩) 10 rfl rfl rfl rfl hopG (by rfl)) ?_
        refine OWp.evs 1 rfl ?_
        refine OWp.nil ?_
        refine Wp.cond rfl (fun h5 => ?_) (fun h5 => ?_)
        · skip
          refine Wp.drop (S' := S) subl ?_
          refine Wp.seq (Wp.region ?_)
          refine OWp.evs 1 rfl ?_
          refine OWp.nil ?_
          refine Wp.ret ⟨trivial, _, ⟨_, _, rfl, rfl, rfl⟩, ?_⟩
          refine hno fun hp => ?_
          have : eqHop x ⟨x.kind, 0, x.user, x.delay, x.id⟩ = true := eqHop_iff.2 (Hop.ext rfl (by show x.node = 0; omega) rfl rfl rfl)
          rw [this] at h5
          cases h5
        refine Wp.skip ?_
        refine Wp.drop (S' := S) subl ?_
        refine Wp.seq (Wp.region ?_)
        refine OWp.evs 1 rfl ?_
        refine OWp.nil ?_
        refine Wp.ret ⟨trivial, _, ⟨_, _, rfl, rfl, rfl⟩, ?_⟩
        have : eqHop x ⟨x.kind, 0, x.user, x.delay, x.id⟩ = true := by simpa using h5
        have := eqHop_iff.1 this
        have e3 := congrArg Hop.node this
        simp only at e3
        exact hyes (by omega)
      have h3 := of_decide_eq_false h3
      refine OWp.evs 6 rfl ?_
      refine OWp.nil ?_
      refine Wp.seq (Wp.region ?_)
      refine OWp.evs 1 rfl ?_
      first | refine OWp.load (List.Mem.head _) rfl rfl rfl rfl rfl ?_ | refine OWp.load (List.Mem.tail _ (List.Mem.head _)) rfl rfl rfl rfl rfl ?_ | refine OWp.load (List.Mem.tail _ (List.Mem.tail _ (List.Mem.head _))) rfl rfl rfl rfl rfl ?_ | refine OWp.load (List.Mem.tail _ (List.Mem.tail _ (List.Mem.tail _ (List.Mem.head _)))) rfl rfl rfl rfl rfl ?_ | refine OWp.load (List.Mem.tail _ (List.Mem.tail _ (List.Mem.tail _ (List.Mem.tail _ (List.Mem.head _))))) rfl rfl rfl rfl rfl ?_ | refine OWp.load (List.Mem.tail _ (List.Mem.tail _ (List.Mem.tail _ (List.Mem.tail _ (List.Mem.tail _ (List.Mem.head _)))))) rfl rfl rfl rfl rfl ?_
      refine OWp.evs 1 rfl ?_
      refine OWp.step rfl (Step.store 0 rfl rfl rfl rfl rfl (by assumption) rfl (Nat.le_of_ble_eq_true rfl) (Unfz.zero _) rfl rfl ?_)
      refine OWp.nil ?_
      refine Wp.seq ?_
      refine Wp.drop (S' := S) subl ?_
      refine Wp.seq (Wp.region ?_)
      refine OWp.evs 7 rfl ?_
      refine OWp.nil ?_
      refine Wp.cond rfl (fun _ => ?_) (fun c => nomatch c)
      refine Wp.seq (Wp.region ?_)
      refine OWp.evs 1 rfl ?_
      refine OWp.nil ?_
      refine Wp.ret ⟨trivial, _, ⟨_, _, rfl, rfl, rfl⟩, ?_⟩
      exact hno (by omega)
    have h2 := of_decide_eq_false h2
    refine OWp.evs 11 rfl ?_
    refine OWp.nil ?_
    refine Wp.seq (Wp.region ?_)
    refine OWp.evs 1 rfl ?_
    first | refine OWp.load (List.Mem.head _) rfl rfl rfl rfl rfl ?_ | refine OWp.load (List.Mem.tail _ (List.Mem.head _)) rfl rfl rfl rfl rfl ?_ | refine OWp.load (List.Mem.tail _ (List.Mem.tail _ (List.Mem.head _))) rfl rfl rfl rfl rfl ?_ | refine OWp.load (List.Mem.tail _ (List.Mem.tail _ (List.Mem.tail _ (List.Mem.head _)))) rfl rfl rfl rfl rfl ?_ | refine OWp.load (List.Mem.tail _ (List.Mem.tail _ (List.Mem.tail _ (List.Mem.tail _ (List.Mem.head _))))) rfl rfl rfl rfl rfl ?_ | refine OWp.load (List.Mem.tail _ (List.Mem.tail _ (List.Mem.tail _ (List.Mem.tail _ (List.Mem.tail _ (List.Mem.head _)))))) rfl rfl rfl rfl rfl ?_
    refine OWp.evs 1 rfl ?_
    refine OWp.step rfl (Step.store 0 rfl rfl rfl rfl rfl (by assumption) rfl (Nat.le_of_ble_eq_true rfl) (Unfz.zero _) rfl rfl ?_)
    refine OWp.nil ?_
    refine Wp.seq ?_
    refine Wp.drop (S' := S) subl ?_
    refine Wp.seq (Wp.region ?_)
    refine OWp.evs 7 rfl ?_
    refine OWp.nil ?_
    refine Wp.cond rfl (fun _ => ?_) (fun c => nomatch c)
    refine Wp.seq (Wp.region ?_)
    refine OWp.evs 1 rfl ?_
    refine OWp.nil ?_
    refine Wp.ret ⟨trivial, _, ⟨_, _, rfl, rfl, rfl⟩, ?_⟩
    exact hno (by omega)
  have h1b := of_decide_eq_false h1b
  refine Wp.seq (Wp.region ?_)
  refine OWp.evs 2 rfl ?_
  refine OWp.nil ?_
  refine Wp.cond rfl (fun h1c => ?_) (fun h1c => ?_)
  · have h1c := of_decide_eq_true h1c
    refine Wp.seq (Wp.region ?_)
    refine OWp.evs 1 rfl ?_
    first | refine OWp.load (List.Mem.head _) rfl rfl rfl rfl rfl ?_ | refine OWp.load (List.Mem.tail _ (List.Mem.head _)) rfl rfl rfl rfl rfl ?_ | refine OWp.load (List.Mem.tail _ (List.Mem.tail _ (List.Mem.head _))) rfl rfl rfl rfl rfl ?_ | refine OWp.load (List.Mem.tail _ (List.Mem.tail _ (List.Mem.tail _ (List.Mem.head _)))) rfl rfl rfl rfl rfl ?_ | refine OWp.load (List.Mem.tail _ (List.Mem.tail _ (List.Mem.tail _ (List.Mem.tail _ (List.Mem.head _))))) rfl rfl rfl rfl rfl ?_ | refine OWp.load (List.Mem.tail _ (List.Mem.tail _ (List.Mem.tail _ (List.Mem.tail _ (List.Mem.tail _ (List.Mem.head _)))))) rfl rfl rfl rfl rfl ?_
    refine OWp.g rfl rfl (Gives.build rfl rfl) ?_
    refine OWp.step rfl (Step.store 0 rfl rfl rfl rfl rfl (by assumption) rfl (Nat.le_of_ble_eq_true rfl) (Unfz.zero _) rfl rfl ?_)
    refine OWp.nil ?_
    refine Wp.region ?_
    refine OWp.evs 2 rfl ?_
    refine OWp.part 50 rfl (fun h2 => ?_) (fun h2 => ?_)
    · have h2 := of_decide_eq_true h2
      refine OWp.evs 1 rfl ?_
      first | refine OWp.load (List.Mem.head _) rfl rfl rfl rfl rfl ?_ | refine OWp.load (List.Mem.tail _ (List.Mem.head _)) rfl rfl rfl rfl rfl ?_ | refine OWp.load (List.Mem.tail _ (List.Mem.tail _ (List.Mem.head _))) rfl rfl rfl rfl rfl ?_ | refine OWp.load (List.Mem.tail _ (List.Mem.tail _ (List.Mem.tail _ (List.Mem.head _)))) rfl rfl rfl rfl rfl ?_ | refine OWp.load (List.Mem.tail _ (List.Mem.tail _ (List.Mem.tail _ (List.Mem.tail _ (List.Mem.head _))))) rfl rfl rfl rfl rfl ?_ | refine OWp.load (List.Mem.tail _ (List.Mem.tail _ (List.Mem.tail _ (List.Mem.tail _ (List.Mem.tail _ (List.Mem.head _)))))) rfl rfl rfl rfl rfl ?_
      refine OWp.evs 4 rfl ?_
      refine OWp.nil ?_
      refine Wp.seq (Wp.region ?_)
      refine OWp.evs 1 rfl ?_
      first | refine OWp.load (List.Mem.head _) rfl rfl rfl rfl rfl ?_ | refine OWp.load (List.Mem.tail _ (List.Mem.head _)) rfl rfl rfl rfl rfl ?_ | refine OWp.load (List.Mem.tail _ (List.Mem.tail _ (List.Mem.head _))) rfl rfl rfl rfl rfl ?_ | refine OWp.load (List.Mem.tail _ (List.Mem.tail _ (List.Mem.tail _ (List.Mem.head _)))) rfl rfl rfl rfl rfl ?_ | refine OWp.load (List.Mem.tail _ (List.Mem.tail _ (List.Mem.tail _ (List.Mem.tail _ (List.Mem.head _))))) rfl rfl rfl rfl rfl ?_ | refine OWp.load (List.Mem.tail _ (List.Mem.tail _ (List.Mem.tail _ (List.Mem.tail _ (List.Mem.tail _ (List.Mem.head _)))))) rfl rfl rfl rfl rfl ?_
      refine OWp.evs 1 rfl ?_
      refine OWp.step rfl (Step.store 0 rfl rfl rfl rfl rfl (by assumption) rfl (Nat.le_of_ble_eq_true rfl) (Unfz.zero _) rfl rfl ?_)
      refine OWp.nil ?_
      refine Wp.seq ?_
      refine Wp.seq (Wp.region ?_)
      refine OWp.evs 3 rfl ?_
      refine OWp.part 63 rfl (fun h4 => ?_) (fun h4 => ?_)
      · have h4 := ndT h4
        refine OWp.evs 4 rfl ?_
        refine OWp.nil ?_
        refine Wp.cond rfl (fun _ => ?_) (fun c => nomatch c)
        refine Wp.drop (S' := S) subl ?_
        refine Wp.seq (Wp.region ?_)
        refine OWp.evs 1 rfl ?_
        refine OWp.nil ?_
        refine Wp.ret ⟨trivial, _, ⟨_, _, rfl, rfl, rfl⟩, ?_⟩
        exact hno (by omega)
      have h4 := ndF h4
      first | refine OWp.load (List.Mem.head _) rfl rfl rfl rfl rfl ?_ | refine OWp.load (List.Mem.tail _ (List.Mem.head _)) rfl rfl rfl rfl rfl ?_ | refine OWp.load (List.Mem.tail _ (List.Mem.tail _ (List.Mem.head _))) rfl rfl rfl rfl rfl ?_ | refine OWp.load (List.Mem.tail _ (List.Mem.tail _ (List.Mem.tail _ (List.Mem.head _)))) rfl rfl rfl rfl rfl ?_ | refine OWp.load (List.Mem.tail _ (List.Mem.tail _ (List.Mem.tail _ (List.Mem.tail _ (List.Mem.head _))))) rfl rfl rfl rfl rfl ?_ | refine OWp.load (List.Mem.tail _ (List.Mem.tail _ (List.Mem.tail _ (List.Mem.tail _ (List.Mem.tail _ (List.Mem.head _)))))) rfl rfl rfl rfl rfl ?_
      first | refine OWp.load (List.Mem.head _) rfl rfl rfl rfl rfl ?_ | refine OWp.load (List.Mem.tail _ (List.Mem.head _)) rfl rfl rfl rfl rfl ?_ | refine OWp.load (List.Mem.tail _ (List.Mem.tail _ (List.Mem.head _))) rfl rfl rfl rfl rfl ?_ | refine OWp.load (List.Mem.tail _ (List.Mem.tail _ (List.Mem.tail _ (List.Mem.head _)))) rfl rfl rfl rfl rfl ?_ | refine OWp.load (List.Mem.tail _ (List.Mem.tail _ (List.Mem.tail _ (List.Mem.tail _ (List.Mem.head _))))) rfl rfl rfl rfl rfl ?_ | refine OWp.load (List.Mem.tail _ (List.Mem.tail _ (List.Mem.tail _ (List.Mem.tail _ (List.Mem.tail _ (List.Mem.head _)))))) rfl rfl rfl rfl rfl ?_
      refine OWp.g rfl rfl (Gives.neqStruct (r := eqHop x ⟨x.kind, 0, 0, 0, x.id⟩) 10 rfl rfl rfl rfl hopG (by rfl)) ?_
      refine OWp.evs 1 rfl ?_
      refine OWp.nil ?_
      refine Wp.cond rfl (fun h5 => ?_) (fun h5 => ?_)
      · skip
        refine Wp.drop (S' := S) subl ?_
        refine Wp.seq (Wp.region ?_)
        refine OWp.evs 1 rfl ?_
        refine OWp.nil ?_
        refine Wp.ret ⟨trivial, _, ⟨_, _, rfl, rfl, rfl⟩, ?_⟩
        refine hno fun hp => ?_
        have : eqHop x ⟨x.kind, 0, 0, 0, x.id⟩ = true := eqHop_iff.2 (Hop.ext rfl (by show x.node = 0; omega) (by show x.user = 0; omega) (by show x.delay = 0; omega) rfl)
        rw [this] at h5
        cases h5
      refine Wp.skip ?_
      refine Wp.drop (S' := S) subl ?_
      refine Wp.seq (Wp.region ?_)
      refine OWp.evs 1 rfl ?_
      refine OWp.nil ?_
      refine Wp.ret ⟨trivial, _, ⟨_, _, rfl, rfl, rfl⟩, ?_⟩
      have : eqHop x ⟨x.kind, 0, 0, 0, x.id⟩ = true := by simpa using h5
      have := eqHop_iff.1 this
      have e3 := congrArg Hop.node this
      have e4 := congrArg Hop.user this
      have e5 := congrArg Hop.delay this
      simp only at e3 e4 e5
      exact hyes (by omega)
    have h2 := of_decide_eq_false h2
    refine OWp.evs 6 rfl ?_
    refine OWp.nil ?_
    refine Wp.seq (Wp.region ?_)
    refine OWp.evs 1 rfl ?_
    first | refine OWp.load (List.Mem.head _) rfl rfl rfl rfl rfl ?_ | refine OWp.load (List.Mem.tail _ (List.Mem.head _)) rfl rfl rfl rfl rfl ?_ | refine OWp.load (List.Mem.tail _ (List.Mem.tail _ (List.Mem.head _))) rfl rfl rfl rfl rfl ?_ | refine OWp.load (List.Mem.tail _ (List.Mem.tail _ (List.Mem.tail _ (List.Mem.head _)))) rfl rfl rfl rfl rfl ?_ | refine OWp.load (List.Mem.tail _ (List.Mem.tail _ (List.Mem.tail _ (List.Mem.tail _ (List.Mem.head _))))) rfl rfl rfl rfl rfl ?_ | refine OWp.load (List.Mem.tail _ (List.Mem.tail _ (List.Mem.tail _ (List.Mem.tail _ (List.Mem.tail _ (List.Mem.head _)))))) rfl rfl rfl rfl rfl ?_
    refine OWp.evs 1 rfl ?_
    refine OWp.step rfl (Step.store 0 rfl rfl rfl rfl rfl (by assumption) rfl (Nat.le_of_ble_eq_true rfl) (Unfz.zero _) rfl rfl ?_)
    refine OWp.nil ?_
    refine Wp.seq ?_
    refine Wp.drop (S' := S) subl ?_
    refine Wp.seq (Wp.region ?_)
    refine OWp.evs 7 rfl ?_
    refine OWp.nil ?_
    refine Wp.cond rfl (fun _ => ?_) (fun c => nomatch c)
    refine Wp.seq (Wp.region ?_)
    refine OWp.evs 1 rfl ?_
    refine OWp.nil ?_
    refine Wp.ret ⟨trivial, _, ⟨_, _, rfl, rfl, rfl⟩, ?_⟩
    exact hno (by omega)
  have h1c := of_decide_eq_false h1c
  refine Wp.seq (Wp.region ?_)
  refine OWp.evs 2 rfl ?_
  refine OWp.nil ?_
  refine Wp.cond rfl (fun h1d => ?_) (fun h1d => ?_)
  · have h1d := of_decide_eq_true h1d
    refine Wp.skip ?_
    refine Wp.seq (Wp.region ?_)
    refine OWp.evs 1 rfl ?_
    first | refine OWp.load (List.Mem.head _) rfl rfl rfl rfl rfl ?_ | refine OWp.load (List.Mem.tail _ (List.Mem.head _)) rfl rfl rfl rfl rfl ?_ | refine OWp.load (List.Mem.tail _ (List.Mem.tail _ (List.Mem.head _))) rfl rfl rfl rfl rfl ?_ | refine OWp.load (List.Mem.tail _ (List.Mem.tail _ (List.Mem.tail _ (List.Mem.head _)))) rfl rfl rfl rfl rfl ?_ | refine OWp.load (List.Mem.tail _ (List.Mem.tail _ (List.Mem.tail _ (List.Mem.tail _ (List.Mem.head _))))) rfl rfl rfl rfl rfl ?_ | refine OWp.load (List.Mem.tail _ (List.Mem.tail _ (List.Mem.tail _ (List.Mem.tail _ (List.Mem.tail _ (List.Mem.head _)))))) rfl rfl rfl rfl rfl ?_
    refine OWp.evs 1 rfl ?_
    refine OWp.step rfl (Step.store 0 rfl rfl rfl rfl rfl (by assumption) rfl (Nat.le_of_ble_eq_true rfl) (Unfz.zero _) rfl rfl ?_)
    refine OWp.nil ?_
    refine Wp.seq ?_
    refine Wp.seq (Wp.region ?_)
    refine OWp.evs 3 rfl ?_
    refine OWp.part 63 rfl (fun h2 => ?_) (fun h2 => ?_)
    · have h2 := ndT h2
      refine OWp.evs 4 rfl ?_
      refine OWp.nil ?_
      refine Wp.cond rfl (fun _ => ?_) (fun c => nomatch c)
      refine Wp.drop (S' := S) subl ?_
      refine Wp.seq (Wp.region ?_)
      refine OWp.evs 1 rfl ?_
      refine OWp.nil ?_
      refine Wp.ret ⟨trivial, _, ⟨_, _, rfl, rfl, rfl⟩, ?_⟩
      exact hno (by omega)
    have h2 := ndF h2
    first | refine OWp.load (List.Mem.head _) rfl rfl rfl rfl rfl ?_ | refine OWp.load (List.Mem.tail _ (List.Mem.head _)) rfl rfl rfl rfl rfl ?_ | refine OWp.load (List.Mem.tail _ (List.Mem.tail _ (List.Mem.head _))) rfl rfl rfl rfl rfl ?_ | refine OWp.load (List.Mem.tail _ (List.Mem.tail _ (List.Mem.tail _ (List.Mem.head _)))) rfl rfl rfl rfl rfl ?_ | refine OWp.load (List.Mem.tail _ (List.Mem.tail _ (List.Mem.tail _ (List.Mem.tail _ (List.Mem.head _))))) rfl rfl rfl rfl rfl ?_ | refine OWp.load (List.Mem.tail _ (List.Mem.tail _ (List.Mem.tail _ (List.Mem.tail _ (List.Mem.tail _ (List.Mem.head _)))))) rfl rfl rfl rfl rfl ?_
    first | refine OWp.load (List.Mem.head _) rfl rfl rfl rfl rfl ?_ | refine OWp.load (List.Mem.tail _ (List.Mem.head _)) rfl rfl rfl rfl rfl ?_ | refine OWp.load (List.Mem.tail _ (List.Mem.tail _ (List.Mem.head _))) rfl rfl rfl rfl rfl ?_ | refine OWp.load (List.Mem.tail _ (List.Mem.tail _ (List.Mem.tail _ (List.Mem.head _)))) rfl rfl rfl rfl rfl ?_ | refine OWp.load (List.Mem.tail _ (List.Mem.tail _ (List.Mem.tail _ (List.Mem.tail _ (List.Mem.head _))))) rfl rfl rfl rfl rfl ?_ | refine OWp.load (List.Mem.tail _ (List.Mem.tail _ (List.Mem.tail _ (List.Mem.tail _ (List.Mem.tail _ (List.Mem.head _)))))) rfl rfl rfl rfl rfl ?_
    refine OWp.g rfl rfl (Gives.neqStruct (r := eqHop x ⟨x.kind, 0, 0, 0, []⟩) 10 rfl rfl rfl rfl hopG (by rfl)) ?_
    refine OWp.evs 1 rfl ?_
    refine OWp.nil ?_
    refine Wp.cond rfl (fun h5 => ?_) (fun h5 => ?_)
    · skip
      refine Wp.drop (S' := S) subl ?_
      refine Wp.seq (Wp.region ?_)
      refine OWp.evs 1 rfl ?_
      refine OWp.nil ?_
      refine Wp.ret ⟨trivial, _, ⟨_, _, rfl, rfl, rfl⟩, ?_⟩
      refine hno fun hp => ?_
      have : eqHop x ⟨x.kind, 0, 0, 0, []⟩ = true := eqHop_iff.2 (Hop.ext rfl (by show x.node = 0; omega) (by show x.user = 0; omega) (by show x.delay = 0; omega) (nil_len.2 (by omega)))
      rw [this] at h5
      cases h5
    refine Wp.skip ?_
    refine Wp.drop (S' := S) subl ?_
    refine Wp.seq (Wp.region ?_)
    refine OWp.evs 1 rfl ?_
    refine OWp.nil ?_
    refine Wp.ret ⟨trivial, _, ⟨_, _, rfl, rfl, rfl⟩, ?_⟩
    have : eqHop x ⟨x.kind, 0, 0, 0, []⟩ = true := by simpa using h5
    have := eqHop_iff.1 this
    have e3 := congrArg Hop.node this
    have e4 := congrArg Hop.user this
    have e5 := congrArg Hop.delay this
    have e6 := nil_len.1 (congrArg Hop.id this)
    simp only at e3 e4 e5
    exact hyes (by omega)
  have h1d := of_decide_eq_false h1d
  refine Wp.drop (S' := S) subl ?_
  refine Wp.seq (Wp.region ?_)
  refine OWp.evs 1 rfl ?_
  refine OWp.nil ?_
  refine Wp.ret ⟨trivial, _, ⟨_, _, rfl, rfl, rfl⟩, ?_⟩
  exact hno (by omega)
end
end Go.Proofs.C

namespace Go.Proofs.C
open Go.Lg
set_option maxRecDepth 100000

def u8 (z : Int) : UInt8 := UInt8.ofNat (z % 256).toNat
theorem u8_wrap (z : Int) : IntKind.u8.wrap z = ((u8 z).toNat : Int) := by
  unfold u8
  rw [IntKind.wrap_u8, UInt8.toNat_ofNat']
  omega
/-- A command's bytes. -/
def hopB (x : Hop) : List UInt8 := u8 x.kind :: u8 (x.node + x.user) :: u8 (x.delay / 256) :: u8 x.delay :: (x.id ++ List.replicate (20 - x.id.length) 0)
theorem hopB_len {x : Hop} (h : hopP x) : (hopB x).length = 24 := by
  unfold hopP at h
  simp only [hopB, List.length_cons, List.length_append, List.length_replicate]
  omega

theorem byteCells_append (a b : List UInt8) : byteCells (a ++ b) = byteCells a ++ byteCells b := by simp [byteCells]
theorem id_put {a b c d : UInt8} {id : List UInt8} : wr (byteCells (a :: b :: c :: d :: List.replicate 20 0)) 4 (byteCells id) = byteCells (a :: b :: c :: d :: (id ++ List.replicate (20 - id.length) 0)) := by
  have e : (List.replicate 20 (0 : UInt8)).drop id.length = List.replicate (20 - id.length) 0 := by rw [List.drop_replicate]
  unfold wr
  rw [byteCells_length]
  simp only [byteCells, ← List.map_take, ← List.map_drop, ← List.map_append]
  congr 1
  rw [show 4 + id.length = id.length + 4 by omega]
  show [a, b, c, d] ++ id ++ (List.replicate 20 (0 : UInt8)).drop id.length = _
  rw [e]
  simp

section
variable {B : Nat} {S R : Ents} {Q : Value → Ents → Prop}

theorem encode_no {x : Hop} (hp : ¬ hopP x) (h : Q (.tuple #[.string (str []), .int .i64 70]) S) : CallWp Tryz.prog B 160 #[.agg x.cells.toArray] Q S := by
  refine CallWp.enter (args := [_]) Tryz.func160 rfl Tryz.ntmps160 rfl ?_
  refine Wp.seq (Wp.region ?_)
  refine OWp.step rfl (Step.box rfl rfl rfl ?_); intro L1 hBL1 hLL1
  refine OWp.evs 2 rfl ?_
  refine OWp.nil ?_
  refine Wp.seq ?_
  refine Wp.seq (Wp.region ?_)
  first | refine OWp.load (List.Mem.head _) rfl rfl rfl rfl rfl ?_ | refine OWp.load (List.Mem.tail _ (List.Mem.head _)) rfl rfl rfl rfl rfl ?_ | refine OWp.load (List.Mem.tail _ (List.Mem.tail _ (List.Mem.head _))) rfl rfl rfl rfl rfl ?_ | refine OWp.load (List.Mem.tail _ (List.Mem.tail _ (List.Mem.tail _ (List.Mem.head _)))) rfl rfl rfl rfl rfl ?_ | refine OWp.load (List.Mem.tail _ (List.Mem.tail _ (List.Mem.tail _ (List.Mem.tail _ (List.Mem.head _))))) rfl rfl rfl rfl rfl ?_ | refine OWp.load (List.Mem.tail _ (List.Mem.tail _ (List.Mem.tail _ (List.Mem.tail _ (List.Mem.tail _ (List.Mem.head _)))))) rfl rfl rfl rfl rfl ?_
  refine OWp.step rfl (Step.call rfl rfl rfl rfl rfl rfl ((checkC (x := x) ?_)))
  rw [hopE_no hp]
  refine OWp.evs 1 rfl ?_
  refine OWp.nil ?_
  refine Wp.seq (Wp.region ?_)
  refine OWp.evs 2 rfl ?_
  refine OWp.nil ?_
  refine Wp.cond rfl (fun _ => ?_) (fun c => nomatch c)
  refine Wp.drop (S' := S) subl ?_
  refine Wp.seq (Wp.region ?_)
  refine OWp.evs 3 rfl ?_
  refine OWp.nil ?_
  refine Wp.ret ⟨trivial, _, ⟨_, _, rfl, rfl, _, _, rfl, rfl, rfl⟩, ?_⟩
  exact h
theorem encode_yes {x : Hop} (hp : hopP x) (h : Q (.tuple #[.string (str (hopB x)), .int .i64 0]) S) : CallWp Tryz.prog B 160 #[.agg x.cells.toArray] Q S := by
  have hid : x.id.length ≤ 20 := by unfold hopP at hp; omega
  have hmx : (if x.user > x.node then x.user else x.node) = x.node + x.user := by unfold hopP at hp; split <;> omega
  have e8 : (2 : Int) ^ (min 8 IntKind.i64.bits) = 256 := by decide
  have hd : x.delay.fdiv (2 ^ (min 8 IntKind.i64.bits)) = x.delay / 256 := by rw [e8]; exact Int.fdiv_eq_ediv_of_nonneg _ (by omega)
  refine CallWp.enter (args := [_]) Tryz.func160 rfl Tryz.ntmps160 rfl ?_
  refine Wp.seq (Wp.region ?_)
  refine OWp.step rfl (Step.box rfl rfl rfl ?_); intro L1 hBL1 hLL1
  refine OWp.evs 2 rfl ?_
  refine OWp.nil ?_
  refine Wp.seq ?_
  refine Wp.seq (Wp.region ?_)
  first | refine OWp.load (List.Mem.head _) rfl rfl rfl rfl rfl ?_ | refine OWp.load (List.Mem.tail _ (List.Mem.head _)) rfl rfl rfl rfl rfl ?_ | refine OWp.load (List.Mem.tail _ (List.Mem.tail _ (List.Mem.head _))) rfl rfl rfl rfl rfl ?_ | refine OWp.load (List.Mem.tail _ (List.Mem.tail _ (List.Mem.tail _ (List.Mem.head _)))) rfl rfl rfl rfl rfl ?_ | refine OWp.load (List.Mem.tail _ (List.Mem.tail _ (List.Mem.tail _ (List.Mem.tail _ (List.Mem.head _))))) rfl rfl rfl rfl rfl ?_ | refine OWp.load (List.Mem.tail _ (List.Mem.tail _ (List.Mem.tail _ (List.Mem.tail _ (List.Mem.tail _ (List.Mem.head _)))))) rfl rfl rfl rfl rfl ?_
  refine OWp.step rfl (Step.call rfl rfl rfl rfl rfl rfl ((checkC (x := x) ?_)))
  rw [hopE_yes hp]
  refine OWp.evs 1 rfl ?_
  refine OWp.nil ?_
  refine Wp.seq (Wp.region ?_)
  refine OWp.evs 2 rfl ?_
  refine OWp.nil ?_
  refine Wp.cond rfl (fun c => nomatch c) (fun _ => ?_)
  refine Wp.skip ?_
  refine Wp.seq (Wp.region ?_)
  refine OWp.step rfl (Step.alloc rfl rfl rfl ?_); intro L5 hBL5 hLL5
  refine OWp.nil ?_
  refine Wp.seq (Wp.regionDraw [0, 1, 2, 3, 4, 5, 6, 7, 8, 9, 10, 11, 12, 13, 14, 15] [11, 13, 15] rfl (by decide +kernel) ?_)
  refine DWp.evs 1 rfl ?_
  first | refine DWp.load (List.Mem.head _) rfl rfl rfl rfl rfl rfl rfl ?_ | refine DWp.load (List.Mem.tail _ (List.Mem.head _)) rfl rfl rfl rfl rfl rfl rfl ?_ | refine DWp.load (List.Mem.tail _ (List.Mem.tail _ (List.Mem.head _))) rfl rfl rfl rfl rfl rfl rfl ?_ | refine DWp.load (List.Mem.tail _ (List.Mem.tail _ (List.Mem.tail _ (List.Mem.head _)))) rfl rfl rfl rfl rfl rfl rfl ?_ | refine DWp.load (List.Mem.tail _ (List.Mem.tail _ (List.Mem.tail _ (List.Mem.tail _ (List.Mem.head _))))) rfl rfl rfl rfl rfl rfl rfl ?_ | refine DWp.load (List.Mem.tail _ (List.Mem.tail _ (List.Mem.tail _ (List.Mem.tail _ (List.Mem.tail _ (List.Mem.head _)))))) rfl rfl rfl rfl rfl rfl rfl ?_
  refine DWp.evs 2 rfl ?_
  first | refine DWp.load (List.Mem.head _) rfl rfl rfl rfl rfl rfl rfl ?_ | refine DWp.load (List.Mem.tail _ (List.Mem.head _)) rfl rfl rfl rfl rfl rfl rfl ?_ | refine DWp.load (List.Mem.tail _ (List.Mem.tail _ (List.Mem.head _))) rfl rfl rfl rfl rfl rfl rfl ?_ | refine DWp.load (List.Mem.tail _ (List.Mem.tail _ (List.Mem.tail _ (List.Mem.head _)))) rfl rfl rfl rfl rfl rfl rfl ?_ | refine DWp.load (List.Mem.tail _ (List.Mem.tail _ (List.Mem.tail _ (List.Mem.tail _ (List.Mem.head _))))) rfl rfl rfl rfl rfl rfl rfl ?_ | refine DWp.load (List.Mem.tail _ (List.Mem.tail _ (List.Mem.tail _ (List.Mem.tail _ (List.Mem.tail _ (List.Mem.head _)))))) rfl rfl rfl rfl rfl rfl rfl ?_
  refine DWp.evs 3 rfl ?_
  first | refine DWp.load (List.Mem.head _) rfl rfl rfl rfl rfl rfl rfl ?_ | refine DWp.load (List.Mem.tail _ (List.Mem.head _)) rfl rfl rfl rfl rfl rfl rfl ?_ | refine DWp.load (List.Mem.tail _ (List.Mem.tail _ (List.Mem.head _))) rfl rfl rfl rfl rfl rfl rfl ?_ | refine DWp.load (List.Mem.tail _ (List.Mem.tail _ (List.Mem.tail _ (List.Mem.head _)))) rfl rfl rfl rfl rfl rfl rfl ?_ | refine DWp.load (List.Mem.tail _ (List.Mem.tail _ (List.Mem.tail _ (List.Mem.tail _ (List.Mem.head _))))) rfl rfl rfl rfl rfl rfl rfl ?_ | refine DWp.load (List.Mem.tail _ (List.Mem.tail _ (List.Mem.tail _ (List.Mem.tail _ (List.Mem.tail _ (List.Mem.head _)))))) rfl rfl rfl rfl rfl rfl rfl ?_
  refine DWp.evs 1 rfl ?_
  refine DWp.g rfl rfl rfl rfl (Gives.indexAddrArr (0) rfl rfl rfl rfl rfl rfl (by decide)) ?_
  refine DWp.step rfl rfl rfl (Step.storeAs 0 (byteCells (u8 x.kind :: 0 :: 0 :: 0 :: List.replicate 20 0)) rfl rfl rfl rfl rfl (by assumption) rfl (Unfz.zero _) rfl (Nat.le_of_ble_eq_true rfl) (by rw [u8_wrap]; rfl) rfl ?_)
  refine prs ?_
  refine DWp.g rfl rfl rfl rfl (Gives.indexAddrArr (2) rfl rfl rfl rfl rfl rfl (by decide)) ?_
  refine DWp.step rfl rfl rfl (Step.storeAs 0 (byteCells (u8 x.kind :: 0 :: u8 (x.delay / 256) :: 0 :: List.replicate 20 0)) rfl rfl rfl rfl rfl (by assumption) rfl (Unfz.zero _) rfl (Nat.le_of_ble_eq_true rfl) (by rw [hd, u8_wrap]; rfl) rfl ?_)
  refine prs ?_
  refine DWp.g rfl rfl rfl rfl (Gives.indexAddrArr (3) rfl rfl rfl rfl rfl rfl (by decide)) ?_
  refine DWp.stepAll rfl rfl rfl rfl (Step.storeAs 0 (byteCells (u8 x.kind :: 0 :: u8 (x.delay / 256) :: u8 x.delay :: List.replicate 20 0)) rfl rfl rfl rfl rfl (by assumption) rfl (Unfz.zero _) rfl (Nat.le_of_ble_eq_true rfl) (by rw [u8_wrap]; rfl) rfl ?_)
  refine DWp.nil ?_
  refine Wp.seq (Wp.region ?_)
  refine OWp.evs 1 rfl ?_
  first | refine OWp.load (List.Mem.head _) rfl rfl rfl rfl rfl ?_ | refine OWp.load (List.Mem.tail _ (List.Mem.head _)) rfl rfl rfl rfl rfl ?_ | refine OWp.load (List.Mem.tail _ (List.Mem.tail _ (List.Mem.head _))) rfl rfl rfl rfl rfl ?_ | refine OWp.load (List.Mem.tail _ (List.Mem.tail _ (List.Mem.tail _ (List.Mem.head _)))) rfl rfl rfl rfl rfl ?_ | refine OWp.load (List.Mem.tail _ (List.Mem.tail _ (List.Mem.tail _ (List.Mem.tail _ (List.Mem.head _))))) rfl rfl rfl rfl rfl ?_ | refine OWp.load (List.Mem.tail _ (List.Mem.tail _ (List.Mem.tail _ (List.Mem.tail _ (List.Mem.tail _ (List.Mem.head _)))))) rfl rfl rfl rfl rfl ?_
  refine OWp.evs 1 rfl ?_
  first | refine OWp.load (List.Mem.head _) rfl rfl rfl rfl rfl ?_ | refine OWp.load (List.Mem.tail _ (List.Mem.head _)) rfl rfl rfl rfl rfl ?_ | refine OWp.load (List.Mem.tail _ (List.Mem.tail _ (List.Mem.head _))) rfl rfl rfl rfl rfl ?_ | refine OWp.load (List.Mem.tail _ (List.Mem.tail _ (List.Mem.tail _ (List.Mem.head _)))) rfl rfl rfl rfl rfl ?_ | refine OWp.load (List.Mem.tail _ (List.Mem.tail _ (List.Mem.tail _ (List.Mem.tail _ (List.Mem.head _))))) rfl rfl rfl rfl rfl ?_ | refine OWp.load (List.Mem.tail _ (List.Mem.tail _ (List.Mem.tail _ (List.Mem.tail _ (List.Mem.tail _ (List.Mem.head _)))))) rfl rfl rfl rfl rfl ?_
  refine OWp.evs 2 rfl ?_
  refine OWp.g rfl rfl (Gives.indexAddrArr (1) rfl rfl rfl rfl rfl rfl (by decide)) ?_
  refine OWp.step rfl (Step.storeAs 0 (byteCells (u8 x.kind :: u8 (x.node + x.user) :: u8 (x.delay / 256) :: u8 x.delay :: List.replicate 20 0)) rfl rfl rfl rfl rfl (by assumption) rfl (Unfz.zero _) rfl (Nat.le_of_ble_eq_true rfl) (by rw [hmx, u8_wrap]; rfl) rfl ?_)
  refine OWp.nil ?_
  refine Wp.seq (Wp.regionDraw [0, 1, 2, 3] [3] rfl (by decide +kernel) ?_)
  refine DWp.g rfl rfl rfl rfl (Gives.sliceArr (l := 4) (h' := 24) rfl rfl rfl rfl ⟨_, _, rfl, rfl⟩ rfl (by omega) (by omega) (by omega)) ?_
  refine DWp.evs 1 rfl ?_
  first | refine DWp.load (List.Mem.head _) rfl rfl rfl rfl rfl rfl rfl ?_ | refine DWp.load (List.Mem.tail _ (List.Mem.head _)) rfl rfl rfl rfl rfl rfl rfl ?_ | refine DWp.load (List.Mem.tail _ (List.Mem.tail _ (List.Mem.head _))) rfl rfl rfl rfl rfl rfl rfl ?_ | refine DWp.load (List.Mem.tail _ (List.Mem.tail _ (List.Mem.tail _ (List.Mem.head _)))) rfl rfl rfl rfl rfl rfl rfl ?_ | refine DWp.load (List.Mem.tail _ (List.Mem.tail _ (List.Mem.tail _ (List.Mem.tail _ (List.Mem.head _))))) rfl rfl rfl rfl rfl rfl rfl ?_ | refine DWp.load (List.Mem.tail _ (List.Mem.tail _ (List.Mem.tail _ (List.Mem.tail _ (List.Mem.tail _ (List.Mem.head _)))))) rfl rfl rfl rfl rfl rfl rfl ?_
  refine DWp.stepAll rfl rfl rfl rfl (Step.copyStr 0 (byteCells (hopB x)) rfl rfl rfl rfl rfl rfl rfl (by assumption) (Unfz.zero _) (by show 0 + 4 * 1 + min x.id.length 20 ≤ 24; omega) (by show wr _ (0 + 4 * 1) (byteCells (x.id.take (min x.id.length 20))) = _; rw [List.take_of_length_le (by omega)]; exact id_put) rfl ?_)
  refine DWp.nil ?_
  refine Wp.seq (Wp.region ?_)
  refine OWp.g rfl rfl (Gives.sliceArr (l := 0) (h' := 24) rfl rfl rfl rfl rfl rfl (by omega) (by omega) (by omega)) ?_
  refine OWp.gives rfl rfl (Gives.bytesToStr (F := (L5, cel (byteCells (hopB x)) 314) :: (L1, cel x.cells 75) :: S) (l := hopB x) (k := 24) rfl rfl rfl rfl rfl (by have := Reads.row (S := (L5, cel (byteCells (hopB x)) 314) :: (L1, cel x.cells 75) :: S) (sz := 1) (k := 24) (cap := 24) (.head _) (by rw [byteCells_length, hopB_len hp]; decide); rw [List.take_of_length_le (by rw [byteCells_length, hopB_len hp]; decide)] at this; exact this)) (fun _ h => h) ?_
  refine OWp.evs 2 rfl ?_
  refine OWp.nil ?_
  refine Wp.drop (S' := S) subl ?_
  refine Wp.ret ⟨trivial, _, ⟨_, _, rfl, rfl, _, _, rfl, rfl, rfl⟩, ?_⟩
  exact h
end
end Go.Proofs.C

namespace Go.Proofs.C
open Go.Lg
set_option maxRecDepth 100000

section
variable {B : Nat} {S R : Ents} {Q : Value → Ents → Prop}

end
end Go.Proofs.C

namespace Go.Proofs.C
open Go.Lg
set_option maxRecDepth 100000

/-- Commands that go on, and a last one that doesn't. -/
def shape : List Hop → Prop
  | [] => False
  | [x] => x.kind ≠ 1
  | x :: y :: r => x.kind = 1 ∧ shape (y :: r)
instance shapeDec : (l : List Hop) → Decidable (shape l)
  | [] => by unfold shape; infer_instance
  | [x] => by unfold shape; infer_instance
  | x :: y :: r => by have := shapeDec (y :: r); unfold shape; infer_instance
theorem shape_iff : ∀ (l : List Hop), shape l ↔ 0 < l.length ∧ ∀ i (h : i < l.length), (l[i].kind = 1 ↔ i < l.length - 1)
  | [] => by simp [shape]
  | [x] => by simp [shape]
  | x :: y :: r => by
    have ih := shape_iff (y :: r)
    simp only [shape]
    constructor
    · rintro ⟨hx, hs⟩
      refine ⟨by simp, fun i h => ?_⟩
      cases i with
      | zero => simp [hx]
      | succ i =>
        have := (ih.1 hs).2 i (by simpa using h)
        simp only [List.getElem_cons_succ, List.length_cons] at this ⊢
        rw [this]; omega
    · rintro ⟨_, hs⟩
      refine ⟨by have := hs 0 (by simp); simpa using this, ih.2 ⟨by simp, fun i h => ?_⟩⟩
      have := hs (i + 1) (by simpa using h)
      simp only [List.getElem_cons_succ, List.length_cons] at this ⊢
      rw [this]; omega

def pathE (l : List Hop) : Int := if ∀ x ∈ l, hopP x then (if shape l ∧ l.length ≤ 5 then 0 else 4) else 70
theorem pathE_bad {l : List Hop} {x : Hop} (h : x ∈ l) (hx : ¬ hopP x) : pathE l = 70 := if_neg fun e => hx (e x h)
theorem pathE_good {l : List Hop} (h : ∀ x ∈ l, hopP x) : pathE l = if shape l ∧ l.length ≤ 5 then 0 else 4 := if_pos h

theorem hop_flat (l : List Hop) : ∀ x ∈ l, (Hop.cells x).length = 5 := fun _ _ => rfl

section
variable {B : Nat} {S R : Ents} {Q : Value → Ents → Prop}

theorem path1C {x : Hop} (h : Q (.bool (decide (¬ hopP x))) S) : CallWp Tryz.prog B 199 #[.agg x.cells.toArray] Q S := by
  refine CallWp.enter (args := [_]) Tryz.func199 rfl Tryz.ntmps199 rfl ?_
  refine Wp.seq (Wp.region ?_)
  refine OWp.step rfl (Step.box rfl rfl rfl ?_); intro L1 hBL1 hLL1
  refine OWp.evs 1 rfl ?_
  refine OWp.nil ?_
  refine Wp.seq (Wp.region ?_)
  first | refine OWp.load (List.Mem.head _) rfl rfl rfl rfl rfl ?_ | refine OWp.load (List.Mem.tail _ (List.Mem.head _)) rfl rfl rfl rfl rfl ?_ | refine OWp.load (List.Mem.tail _ (List.Mem.tail _ (List.Mem.head _))) rfl rfl rfl rfl rfl ?_ | refine OWp.load (List.Mem.tail _ (List.Mem.tail _ (List.Mem.tail _ (List.Mem.head _)))) rfl rfl rfl rfl rfl ?_ | refine OWp.load (List.Mem.tail _ (List.Mem.tail _ (List.Mem.tail _ (List.Mem.tail _ (List.Mem.head _))))) rfl rfl rfl rfl rfl ?_ | refine OWp.load (List.Mem.tail _ (List.Mem.tail _ (List.Mem.tail _ (List.Mem.tail _ (List.Mem.tail _ (List.Mem.head _)))))) rfl rfl rfl rfl rfl ?_
  refine OWp.step rfl (Step.call rfl rfl rfl rfl rfl rfl ((checkC (x := x) ?_)))
  by_cases hp : hopP x
  · skip
    rw [hopE_yes hp]
    rw [decide_eq_false (by simpa using hp)] at h
    refine OWp.evs 2 rfl ?_
    refine OWp.nil ?_
    refine Wp.drop (S' := S) subl ?_
    refine Wp.ret ⟨trivial, _, ⟨_, _, rfl, rfl, rfl⟩, ?_⟩
    exact h
  rw [hopE_no hp]
  rw [decide_eq_true hp] at h
  refine OWp.evs 2 rfl ?_
  refine OWp.nil ?_
  refine Wp.drop (S' := S) subl ?_
  refine Wp.ret ⟨trivial, _, ⟨_, _, rfl, rfl, rfl⟩, ?_⟩
  exact h
theorem path2C {x : Hop} (h : Q (.bool (decide (x.kind ≠ 1))) S) : CallWp Tryz.prog B 201 #[.agg x.cells.toArray] Q S := by
  refine CallWp.enter (args := [_]) Tryz.func201 rfl Tryz.ntmps201 rfl ?_
  refine Wp.seq (Wp.region ?_)
  refine OWp.step rfl (Step.box rfl rfl rfl ?_); intro L1 hBL1 hLL1
  refine OWp.evs 1 rfl ?_
  refine OWp.nil ?_
  refine Wp.seq (Wp.region ?_)
  refine OWp.evs 1 rfl ?_
  first | refine OWp.load (List.Mem.head _) rfl rfl rfl rfl rfl ?_ | refine OWp.load (List.Mem.tail _ (List.Mem.head _)) rfl rfl rfl rfl rfl ?_ | refine OWp.load (List.Mem.tail _ (List.Mem.tail _ (List.Mem.head _))) rfl rfl rfl rfl rfl ?_ | refine OWp.load (List.Mem.tail _ (List.Mem.tail _ (List.Mem.tail _ (List.Mem.head _)))) rfl rfl rfl rfl rfl ?_ | refine OWp.load (List.Mem.tail _ (List.Mem.tail _ (List.Mem.tail _ (List.Mem.tail _ (List.Mem.head _))))) rfl rfl rfl rfl rfl ?_ | refine OWp.load (List.Mem.tail _ (List.Mem.tail _ (List.Mem.tail _ (List.Mem.tail _ (List.Mem.tail _ (List.Mem.head _)))))) rfl rfl rfl rfl rfl ?_
  refine OWp.evs 2 rfl ?_
  refine OWp.nil ?_
  refine Wp.drop (S' := S) subl ?_
  refine Wp.ret ⟨trivial, _, ⟨_, _, rfl, rfl, rfl⟩, ?_⟩
  rw [decide_not] at h
  exact h
theorem hopIndex {v : Value} {n : Nat} {l : List Hop} {g : FuncId} {f : Hop → Bool} (hc : callable Tryz.prog g = true) (hl : Reads S 5 v n (l.flatMap Hop.cells)) (hn : l.length = n) (hm : n ≤ lim)
    (hf : ∀ x ∈ l, ∀ Q' : Value → Ents → Prop, Q' (.bool (f x)) S → CallWp Tryz.prog B g #[.agg x.cells.toArray] Q' S)
    (h0 : (∀ x ∈ l, f x = false) → Q (.int .i64 (-1)) S)
    (h1 : ∀ j (hj : j < l.length), (∀ i (hi : i < j), f l[i] = false) → f l[j] = true → Q (.int .i64 (j : Int)) S) :
    CallWp Tryz.prog B 200 #[v, .func (.func g) #[] #[]] Q S := by
  obtain ⟨aa, ac, rfl⟩ := hl.form
  subst hn
  unfold lim at hm
  refine CallWp.enter (args := [_, _]) Tryz.func200 rfl Tryz.ntmps200 rfl ?_
  refine Wp.seq (Wp.region ?_)
  refine OWp.evs 1 rfl ?_
  refine OWp.nil ?_
  refine Wp.seq ?_
  refine Wp.seq (Wp.region ?_)
  refine OWp.evs 3 rfl ?_
  refine OWp.nil ?_
  refine Wp.block ?_
  refine Wp.loopS (α := Nat) (fun i => l.length - i) (fun i => [(8, .int .i64 (i : Int)), (7, .int .i64 (l.length : Int)), (0, .slice aa l.length ac), (1, .func (.func g) #[] #[])]) (fun _ => S) (fun i => i ≤ l.length ∧ ∀ k (hk : k < l.length), k < i → f l[k] = false) 0 ?_ (.refl _) ⟨Nat.zero_le _, fun _ _ h => by omega⟩ ?_
  · exact .cons rfl (.cons rfl (.cons rfl (.cons rfl (.nil _))))
  rintro i ⟨hi, he⟩
  refine Wp.seq (Wp.region ?_)
  refine OWp.evs 1 rfl ?_
  refine OWp.nil ?_
  refine Wp.seq ?_
  refine Wp.cond rfl (fun h2 => ?_) (fun h2 => ?_)
  · have h2 := of_decide_eq_true h2
    have hlt : i < l.length := by omega
    obtain ⟨b, o, cap', l', e, fz, hv, hm', hat⟩ := hl.elem (sz := 5) (hop_flat l) (by omega)
    cases hv
    refine Wp.skip ?_
    refine Wp.seq ?_
    refine Wp.block ?_
    refine Wp.seq (Wp.region ?_)
    refine OWp.evs 2 rfl ?_
    refine OWp.nil ?_
    refine Wp.seq (Wp.region ?_)
    refine OWp.evs 3 rfl ?_
    refine OWp.g rfl rfl (Gives.indexAddrSlice (i) rfl rfl rfl rfl rfl rfl (by omega)) ?_
    refine OWp.load (hm') rfl rfl rfl rfl (partAt_agg (hat i hlt) rfl rfl rfl) ?_
    refine OWp.step rfl (Step.call rfl rfl rfl rfl rfl hc (hf l[i] (List.getElem_mem hlt) _ ?_))
    generalize hb : f l[i] = b
    cases b
    · skip
      refine OWp.nil ?_
      refine Wp.cond rfl (fun c => nomatch c) (fun _ => ?_)
      refine Wp.skip ?_
      refine Wp.region ?_
      refine OWp.evs 2 rfl ?_
      refine OWp.nil ?_
      refine ⟨i + 1, by omega, ⟨by omega, fun k hk hki => ?_⟩, ?_, .refl _⟩
      · by_cases e : k = i
        · subst e; exact hb
        · exact he k hk (by omega)
      · exact .cons' rfl (int_eq (by rw [i64_id] <;> omega)) (.cons rfl (.cons rfl (.cons rfl (.nil _))))
    refine OWp.nil ?_
    refine Wp.cond rfl (fun _ => ?_) (fun c => nomatch c)
    refine Wp.seq (Wp.region ?_)
    refine OWp.evs 2 rfl ?_
    refine OWp.nil ?_
    refine Wp.ret ⟨trivial, _, ⟨_, _, rfl, rfl, rfl⟩, ?_⟩
    exact h1 i hlt (fun k hk => he k (by omega) hk) hb
  have h2 := of_decide_eq_false h2
  refine Wp.exit ?_
  refine Wp.seq (Wp.region ?_)
  refine OWp.evs 1 rfl ?_
  refine OWp.nil ?_
  refine Wp.ret ⟨trivial, _, ⟨_, _, rfl, rfl, rfl⟩, ?_⟩
  refine h0 fun x hx => ?_
  obtain ⟨k, hk, rfl⟩ := List.mem_iff_getElem.1 hx
  exact he k hk (by omega)
theorem hopContains {v : Value} {n : Nat} {l : List Hop} {g : FuncId} {f : Hop → Bool} (hc : callable Tryz.prog g = true) (hl : Reads S 5 v n (l.flatMap Hop.cells)) (hn : l.length = n) (hm : n ≤ lim)
    (hf : ∀ x ∈ l, ∀ (Q' : Value → Ents → Prop), Q' (.bool (f x)) S → CallWp Tryz.prog B g #[.agg x.cells.toArray] Q' S) (h : Q (.bool (l.any f)) S) :
    CallWp Tryz.prog B 198 #[v, .func (.func g) #[] #[]] Q S := by
  refine CallWp.enter (args := [_, _]) Tryz.func198 rfl Tryz.ntmps198 rfl ?_
  refine Wp.seq (Wp.region ?_)
  refine OWp.evs 1 rfl ?_
  refine OWp.nil ?_
  refine Wp.seq (Wp.region ?_)
  refine OWp.evs 2 rfl ?_
  refine OWp.step rfl (Step.call rfl rfl rfl rfl rfl rfl ((hopIndex hc hl hn hm hf ?_ ?_)))
  intro h0
  · skip
    refine OWp.evs 2 rfl ?_
    refine OWp.nil ?_
    refine Wp.ret ⟨trivial, _, ⟨_, _, rfl, rfl, rfl⟩, ?_⟩
    rw [show l.any f = false from List.any_eq_false.2 fun x hx => by simp [h0 x hx]] at h
    exact h
  intro j hj _ hj1
  refine OWp.evs 2 rfl ?_
  refine OWp.nil ?_
  refine Wp.ret ⟨trivial, _, ⟨_, _, rfl, rfl, rfl⟩, ?_⟩
  rw [show l.any f = true from List.any_eq_true.2 ⟨l[j], List.getElem_mem hj, hj1⟩] at h
  rw [decide_eq_true (by omega)]
  exact h
theorem pathC {v : Value} {n : Nat} {l : List Hop} (hl : Reads S 5 v n (l.flatMap Hop.cells)) (hn : l.length = n) (hm : n ≤ lim) (h : Q (.int .i64 (pathE l)) S) : CallWp Tryz.prog B 176 #[v] Q S := by
  obtain ⟨aa, ac, rfl⟩ := hl.form
  have hm' := hm
  unfold lim at hm'
  refine CallWp.enter (args := [_]) Tryz.func176 rfl Tryz.ntmps176 rfl ?_
  refine Wp.seq (Wp.region ?_)
  refine OWp.evs 1 rfl ?_
  refine OWp.nil ?_
  refine Wp.seq ?_
  refine Wp.seq (Wp.region ?_)
  refine OWp.evs 1 rfl ?_
  refine OWp.step rfl (Step.call rfl rfl rfl rfl rfl rfl ((hopContains (f := fun x => decide (¬ hopP x)) rfl hl hn hm (fun x _ Q' hq => path1C hq) ?_)))
  generalize hb : l.any (fun x => decide (¬ hopP x)) = b
  cases b
  · skip
    refine OWp.nil ?_
    refine Wp.cond rfl (fun c => nomatch c) (fun _ => ?_)
    have hg : ∀ x ∈ l, hopP x := fun x hx => by
      have := List.any_eq_false.1 hb x hx
      simpa using this
    rw [pathE_good hg] at h
    refine Wp.skip ?_
    refine Wp.seq (Wp.region ?_)
    refine OWp.evs 1 rfl ?_
    refine OWp.step rfl (Step.call rfl rfl rfl rfl rfl rfl ((hopIndex (f := fun x => decide (x.kind ≠ 1)) rfl hl hn hm (fun x _ Q' hq => path2C hq) ?_ ?_)))
    intro h0
    · skip
      refine OWp.evs 1 rfl ?_
      refine OWp.nil ?_
      refine Wp.seq ?_
      refine Wp.seq (Wp.region ?_)
      refine OWp.evs 3 rfl ?_
      refine OWp.evs 11 rfl ?_
      refine OWp.nil ?_
      refine Wp.cond rfl (fun _ => ?_) (fun c => nomatch c)
      refine Wp.seq (Wp.region ?_)
      refine OWp.evs 1 rfl ?_
      refine OWp.nil ?_
      refine Wp.ret ⟨trivial, _, ⟨_, _, rfl, rfl, rfl⟩, ?_⟩
      have hs : ¬ shape l := fun hs => by
        obtain ⟨hp, hs⟩ := (shape_iff l).1 hs
        have := hs (l.length - 1) (by omega)
        have h2 := h0 l[l.length - 1] (List.getElem_mem _)
        have h2 : l[l.length - 1].kind = 1 := by simpa using h2
        omega
      rw [if_neg (fun e => hs e.1)] at h
      exact h
    intro j hj hj0 hj1
    refine OWp.evs 1 rfl ?_
    refine OWp.nil ?_
    refine Wp.seq ?_
    refine Wp.seq (Wp.region ?_)
    refine OWp.evs 3 rfl ?_
    refine OWp.part 10 rfl (fun cc1 => absurd (of_decide_eq_true cc1) (by omega)) (fun cc1 => ?_)
    have cc1 := of_decide_eq_false cc1
    refine OWp.evs 7 rfl ?_
    refine OWp.part 17 rfl (fun e1 => ?_) (fun e1 => ?_)
    · have e1 := ndT e1
      refine OWp.evs 4 rfl ?_
      refine OWp.nil ?_
      refine Wp.cond rfl (fun _ => ?_) (fun c => nomatch c)
      refine Wp.seq (Wp.region ?_)
      refine OWp.evs 1 rfl ?_
      refine OWp.nil ?_
      refine Wp.ret ⟨trivial, _, ⟨_, _, rfl, rfl, rfl⟩, ?_⟩
      rw [i64_id (by omega) (by omega)] at e1
      rw [if_neg (fun e => by
        obtain ⟨hp, hs⟩ := (shape_iff l).1 e.1
        have h2 : l[j].kind ≠ 1 := by simpa using hj1
        have := hs j hj
        omega)] at h
      exact h
    have e1 := ndF e1
    rw [i64_id (by omega) (by omega)] at e1
    have hs : shape l := (shape_iff l).2 ⟨by omega, fun i hi => by
      by_cases e : i = j
      · subst e
        have h2 : l[i].kind ≠ 1 := by simpa using hj1
        constructor
        · intro h; exact absurd h h2
        · intro h; omega
      · have h2 := hj0 i (by omega)
        have h2 : l[i].kind = 1 := by simpa using h2
        constructor
        · intro _; omega
        · intro _; exact h2⟩
    refine OWp.evs 4 rfl ?_
    refine OWp.nil ?_
    refine Wp.cond rfl (fun e2 => ?_) (fun e2 => ?_)
    · have e2 := of_decide_eq_true e2
      refine Wp.seq (Wp.region ?_)
      refine OWp.evs 1 rfl ?_
      refine OWp.nil ?_
      refine Wp.ret ⟨trivial, _, ⟨_, _, rfl, rfl, rfl⟩, ?_⟩
      rw [if_neg (fun e => by omega)] at h
      exact h
    have e2 := of_decide_eq_false e2
    refine Wp.skip ?_
    refine Wp.seq (Wp.region ?_)
    refine OWp.evs 1 rfl ?_
    refine OWp.nil ?_
    refine Wp.ret ⟨trivial, _, ⟨_, _, rfl, rfl, rfl⟩, ?_⟩
    rw [if_pos ⟨hs, by omega⟩] at h
    exact h
  refine OWp.nil ?_
  refine Wp.cond rfl (fun _ => ?_) (fun c => nomatch c)
  refine Wp.seq (Wp.region ?_)
  refine OWp.evs 1 rfl ?_
  refine OWp.nil ?_
  refine Wp.ret ⟨trivial, _, ⟨_, _, rfl, rfl, rfl⟩, ?_⟩
  obtain ⟨x, hx, hx2⟩ := List.any_eq_true.1 hb
  rw [pathE_bad hx (of_decide_eq_true hx2)] at h
  exact h
end
end Go.Proofs.C

namespace Go.Proofs.C
open Go.Lg
set_option maxRecDepth 100000

def Hop.zero : Hop := ⟨0, 0, 0, 0, []⟩
/-- Bytes read as a command: with delays of all kinds (all), or of those alone that have one. -/
def parse (all : Bool) : List UInt8 → Hop
  | a :: b :: c :: d :: r =>
    if a.toNat = 1 then ⟨1, b.toNat, 0, ((c.toNat * 256 + d.toNat : Nat) : Int), []⟩
    else if a.toNat = 2 then ⟨2, 0, b.toNat, ((c.toNat * 256 + d.toNat : Nat) : Int), r.take 16⟩
    else if a.toNat = 3 then ⟨3, 0, 0, if all then ((c.toNat * 256 + d.toNat : Nat) : Int) else 0, r.take 16⟩
    else ⟨a.toNat, 0, 0, if all then ((c.toNat * 256 + d.toNat : Nat) : Int) else 0, []⟩
  | _ => Hop.zero

section
variable {B : Nat} {S R : Ents} {Q : Value → Ents → Prop}

/-- What both read: the command whose bytes these are, or none. -/
def decQ (Q : Value → Ents → Prop) (S : Ents) (b : List UInt8) : Prop :=
  (∀ x, hopP x → hopB x = b → Q (.tuple #[.agg x.cells.toArray, .int .i64 0]) S) ∧ ((∀ x, hopP x → hopB x ≠ b) → Q (.tuple #[.agg Hop.zero.cells.toArray, .int .i64 70]) S)

end
end Go.Proofs.C

namespace Go.Proofs.C
open Go.Lg
set_option maxRecDepth 100000

end Go.Proofs.C

namespace Go.Proofs.C
open Go.Lg
set_option maxRecDepth 100000

theorem _root_.Go.Lg.Reads.take {S : Ents} {sz n m cap cap' b o : Nat} {xs : List Value} (h : Reads S sz (.slice (some ⟨b, o, none⟩) n cap) n xs) (hm : m ≤ n) (h0 : 0 < n) :
    Reads S sz (.slice (some ⟨b, o, none⟩) m cap') m (xs.take (m * sz)) := by
  obtain ⟨hl, ⟨_, hk⟩ | ⟨b', o', cap2, l, e, fz, hv, hmm, hle, hx⟩⟩ := h
  · omega
  · cases hv
    have h1 : m * sz ≤ n * sz := Nat.mul_le_mul_right _ hm
    refine ⟨by rw [List.length_take]; omega, .inr ⟨b, o, cap', l, e, fz, rfl, hmm, by omega, ?_⟩⟩
    rw [← hx, List.take_take, Nat.min_eq_left h1]

def encB (x : Hop) : List UInt8 := if hopP x then hopB x else []

section
variable {B : Nat} {S R : Ents} {Q : Value → Ents → Prop}

theorem encodeC {x : Hop} (h : Q (.tuple #[.string (str (encB x)), .int .i64 (hopE x)]) S) : CallWp Tryz.prog B 160 #[.agg x.cells.toArray] Q S := by
  unfold encB hopE at h
  by_cases hp : hopP x
  · rw [if_pos hp, if_pos hp] at h; exact encode_yes hp h
  · rw [if_neg hp, if_neg hp] at h; exact encode_no hp h
end
end Go.Proofs.C

namespace Go.Proofs.D
open Go.Lg Go.Sha Go.Hd
set_option maxRecDepth 100000
/-- The cells of keys. -/
def _root_.Go.Hd.HK.cells (k : HK) : List Value := [.string (str k.flow), .string (str k.mac), .string (str k.body), .string (str k.blind), .string (str k.tag)]
/-- The cells of a hop: its secret, its keys. -/
def hopC (s : List UInt8) (k : HK) : List Value := .string (str s) :: k.cells
attribute [local irreducible] derive hmac stream
section
variable {B : Nat} {S R : Ents} {Q : Value → Ents → Prop}
theorem hkeyC {s label : List UInt8} {n : Nat} (hk : KsIn S) (hn : n ≤ 8160) (h1 : s.length + 1000 ≤ big) (h2 : label.length + 2000 ≤ big) (H : Q (.string (str (derive s label n))) S) : CallWp Tryz.prog B 158 #[.agg #[.string (str s)], .string (str label), .int .i64 (n : Int)] Q S := by
  refine CallWp.enter (args := [_, _, _]) Tryz.func158 rfl Tryz.ntmps158 rfl ?_
  refine Wp.seq (Wp.region ?_)
  refine OWp.step rfl (Step.box rfl rfl rfl ?_); intro L hBL hLL
  refine OWp.evs 1 rfl ?_
  refine OWp.nil ?_
  refine Wp.seq (Wp.region ?_)
  refine OWp.evs 1 rfl ?_
  first | refine OWp.load (List.Mem.head _) rfl rfl rfl rfl rfl ?_ | refine OWp.load (List.Mem.tail _ (List.Mem.head _)) rfl rfl rfl rfl rfl ?_ | refine OWp.load (List.Mem.tail _ (List.Mem.tail _ (List.Mem.head _))) rfl rfl rfl rfl rfl ?_ | refine OWp.load (List.Mem.tail _ (List.Mem.tail _ (List.Mem.tail _ (List.Mem.head _)))) rfl rfl rfl rfl rfl ?_ | refine OWp.load (List.Mem.tail _ (List.Mem.tail _ (List.Mem.tail _ (List.Mem.tail _ (List.Mem.head _))))) rfl rfl rfl rfl rfl ?_ | refine OWp.load (List.Mem.tail _ (List.Mem.tail _ (List.Mem.tail _ (List.Mem.tail _ (List.Mem.tail _ (List.Mem.head _)))))) rfl rfl rfl rfl rfl ?_
  refine OWp.evs 2 rfl ?_
  refine OWp.step rfl (Step.call rfl rfl rfl rfl rfl rfl ((deriveC hk.cons hn h1 h2 ?_)))
  refine OWp.evs 5 rfl ?_
  refine OWp.nil ?_
  refine Wp.dropAt 0 rfl ?_
  refine Wp.seq (Wp.region ?_)
  refine OWp.evs 2 rfl ?_
  refine OWp.nil ?_
  refine Wp.ret ⟨trivial, _, ⟨_, _, rfl, rfl, rfl⟩, ?_⟩
  exact H
theorem hzerosC {n : Nat} (hn : n ≤ 2147483648) (H : Q (.string (str (List.replicate n 0))) S) : CallWp Tryz.prog B 133 #[.int .i64 (n : Int)] Q S := by
  refine CallWp.enter (args := [_]) Tryz.func133 rfl Tryz.ntmps133 rfl ?_
  refine Wp.seq (Wp.region ?_)
  refine OWp.evs 1 rfl ?_
  refine OWp.nil ?_
  refine Wp.seq (Wp.region ?_)
  refine OWp.evs 1 rfl ?_
  refine OWp.step rfl (Step.call rfl rfl rfl rfl rfl rfl ((zerosC hn ?_)))
  refine OWp.evs 1 rfl ?_
  refine OWp.nil ?_
  refine Wp.ret ⟨trivial, _, ⟨_, _, rfl, rfl, rfl⟩, ?_⟩
  exact H
theorem sbytesNC {key : List UInt8} {n : Nat} (hk : key.length = 32) (hn : n ≤ 65536) (H : Q (.tuple #[.string (str (stream key zeros12 0 n)), .int .i64 0]) S) : CallWp Tryz.prog B 159 #[.string (str key), .string (str zeros12), .int .i64 (n : Int)] Q S := by
  have hx : xors (List.replicate n 0) (stream key zeros12 0 n) = stream key zeros12 0 n := by
    have hl := stream_len key zeros12 0 n
    apply List.ext_getElem?
    intro i
    unfold xors
    by_cases hi : i < n
    · rw [List.getElem?_zipWith, List.getElem?_eq_getElem (by simpa using hi), List.getElem?_eq_getElem (by rw [hl]; exact hi)]
      simp
    · rw [List.getElem?_eq_none (by simp; omega), List.getElem?_eq_none (by rw [hl]; omega)]
  refine CallWp.enter (args := [_, _, _]) Tryz.func159 rfl Tryz.ntmps159 rfl ?_
  refine Wp.seq (Wp.region ?_)
  refine OWp.evs 2 rfl ?_
  refine OWp.nil ?_
  refine Wp.seq ?_
  refine Wp.seq (Wp.region ?_)
  refine OWp.evs 2 rfl ?_
  refine OWp.step rfl (Step.call rfl rfl rfl rfl rfl rfl ((wrongC (c := 0) hk rfl (by decide) ?_)))
  refine OWp.evs 1 rfl ?_
  refine OWp.nil ?_
  refine Wp.seq (Wp.region ?_)
  refine OWp.evs 2 rfl ?_
  refine OWp.nil ?_
  refine Wp.cond rfl (fun cc1 => absurd (ndT cc1) (by decide)) (fun cc1 => ?_)
  have cc1 := ndF cc1
  refine Wp.skip ?_
  refine Wp.seq ?_
  refine Wp.seq (Wp.region ?_)
  refine OWp.evs 3 rfl ?_
  refine OWp.part 17 rfl (fun cc2 => absurd (of_decide_eq_true cc2) (by omega)) (fun cc2 => ?_)
  have cc2 := of_decide_eq_false cc2
  refine OWp.evs 3 rfl ?_
  refine OWp.nil ?_
  refine Wp.cond rfl (fun cc3 => absurd (of_decide_eq_true cc3) (by omega)) (fun cc3 => ?_)
  have cc3 := of_decide_eq_false cc3
  refine Wp.skip ?_
  refine Wp.seq (Wp.region ?_)
  refine OWp.evs 3 rfl ?_
  refine OWp.step rfl (Step.call rfl rfl rfl rfl rfl rfl ((zerosC (by omega) ?_)))
  refine OWp.step rfl (Step.call rfl rfl rfl rfl rfl rfl ((xorC (c := 0) hk rfl (by decide) (by rw [List.length_replicate]; exact hn) ?_)))
  rw [List.length_replicate, hx]
  refine OWp.evs 4 rfl ?_
  refine OWp.nil ?_
  refine Wp.ret ⟨trivial, _, ⟨_, _, rfl, rfl, _, _, rfl, rfl, rfl⟩, ?_⟩
  exact H
end
end Go.Proofs.D

namespace Go.Proofs.D
open Go.Lg Go.Sha Go.Hd
set_option maxRecDepth 100000
attribute [local irreducible] derive hmac stream
section
variable {B : Nat} {S R : Ents} {Q : Value → Ents → Prop}
theorem xor_cell {t f : List UInt8} {g : List Value} {i : Nat} (h : t.length ≤ f.length) (hi : i < t.length) : wr (byteCells (xorAt t f i) ++ g) (0 + i * 1) (Value.int .u8 (bits .xor .u8 ((t.getD i 0).toNat : Int) ((f.getD i 0).toNat : Int))).cells.toList = byteCells (xorAt t f (i + 1)) ++ g := by
  rw [xor8, ← xorAt_set t f h hi]
  exact bc_set (by rw [xorAt_len t f h (by omega)]; exact hi) rfl (by omega)
theorem hflowC {s : List UInt8} {k : HK} {text : List UInt8} {a : Nat} (hk : k.flow.length = 32) (hl : text.length + a ≤ 240) (H : Q (.string (str (flowX k text a))) S) : CallWp Tryz.prog B 132 #[.agg (hopC s k).toArray, .string (str text), .int .i64 (a : Int)] Q S := by
  obtain ⟨n, hn⟩ : ∃ n, n = text.length := ⟨_, rfl⟩
  obtain ⟨f, hf⟩ : ∃ f, f = stream k.flow zeros12 0 240 := ⟨_, rfl⟩
  have hfl : f.length = 240 := by rw [hf, stream_len]
  have hfd : text.length ≤ (f.drop a).length := by rw [List.length_drop]; omega
  have hfx : flowX k text a = xors text (f.drop a) := by rw [hf]; rfl
  rw [hfx] at H
  refine CallWp.dropRet ?_
  refine CallWp.enter (args := [_, _, _]) Tryz.func132 rfl Tryz.ntmps132 rfl ?_
  refine Wp.seq (Wp.region ?_)
  refine OWp.step rfl (Step.box rfl rfl rfl ?_); intro L0 hBL0 hLL0
  refine OWp.evs 1 rfl ?_
  refine OWp.nil ?_
  refine Wp.seq (Wp.regionDraw [0, 1, 2, 3, 4, 5, 6, 7, 8, 9] [3, 4] rfl (by decide +kernel) ?_)
  refine DWp.evs 2 rfl ?_
  first | refine DWp.load (List.Mem.head _) rfl rfl rfl rfl rfl rfl rfl ?_ | refine DWp.load (List.Mem.tail _ (List.Mem.head _)) rfl rfl rfl rfl rfl rfl rfl ?_ | refine DWp.load (List.Mem.tail _ (List.Mem.tail _ (List.Mem.head _))) rfl rfl rfl rfl rfl rfl rfl ?_ | refine DWp.load (List.Mem.tail _ (List.Mem.tail _ (List.Mem.tail _ (List.Mem.head _)))) rfl rfl rfl rfl rfl rfl rfl ?_ | refine DWp.load (List.Mem.tail _ (List.Mem.tail _ (List.Mem.tail _ (List.Mem.tail _ (List.Mem.head _))))) rfl rfl rfl rfl rfl rfl rfl ?_ | refine DWp.load (List.Mem.tail _ (List.Mem.tail _ (List.Mem.tail _ (List.Mem.tail _ (List.Mem.tail _ (List.Mem.head _)))))) rfl rfl rfl rfl rfl rfl rfl ?_
  refine DWp.stepGrow rfl rfl rfl (Step.call rfl rfl rfl rfl rfl rfl ((hzerosC (n := 12) (by decide) ?_)))
  refine ⟨fun _ hy => hy, ?_⟩
  refine DWp.stepGrow rfl rfl rfl (Step.call rfl rfl rfl rfl rfl rfl ((sbytesNC (n := 240) hk (by decide) ?_)))
  refine ⟨fun _ hy => hy, ?_⟩
  rw [← hf]
  refine DWp.evs 5 rfl ?_
  refine DWp.nil ?_
  refine Wp.seq (Wp.region ?_)
  refine OWp.evs 1 rfl ?_
  refine OWp.step rfl (Step.strToBytes rfl rfl rfl rfl rfl rfl ?_); intro L g cap hBL hLL hcL
  refine OWp.evs 1 rfl ?_
  refine OWp.nil ?_
  refine Wp.seq ?_
  refine Wp.seq (Wp.region ?_)
  refine OWp.evs 3 rfl ?_
  refine OWp.nil ?_
  refine Wp.block ?_
  refine Wp.loopS (α := Nat) (fun i => n - i) (fun i => [(2, .int .i64 (a : Int)), (7, .string (str f)), (9, .slice (some ⟨L, 0, none⟩) n cap), (22, .int .i64 (n : Int)), (23, .int .i64 (i : Int))]) (fun i => (L, cel (byteCells (xorAt text (f.drop a) i) ++ g) 5 (cap, cap + 1)) :: (L0, cel (hopC s k) 252) :: S) (fun i => i ≤ n) 0 ?_ (by simp only [xorAt_zero]; exact .refl _) (by omega) ?_
  · exact .cons rfl (.cons rfl (.cons' rfl (by rw [hn]) (.cons' rfl (by rw [hn]) (.cons rfl (.nil _)))))
  intro i hi
  have hpl : (xorAt text (f.drop a) i).length = n := by rw [xorAt_len _ _ hfd (by omega), hn]
  refine Wp.seq (Wp.region ?_)
  refine OWp.evs 1 rfl ?_
  refine OWp.nil ?_
  refine Wp.seq ?_
  refine Wp.cond rfl (fun h1 => ?_) (fun h1 => ?_)
  · have h1 := of_decide_eq_true h1
    have hlt : i < text.length := by omega
    refine Wp.skip ?_
    refine Wp.seq ?_
    refine Wp.block ?_
    refine Wp.seq (Wp.region ?_)
    refine OWp.evs 2 rfl ?_
    refine OWp.nil ?_
    refine Wp.regionDraw [0, 1, 2, 3, 4, 5, 6, 7, 8, 9, 10, 11] [11] rfl (by decide +kernel) ?_
    refine DWp.evs 2 rfl ?_
    refine DWp.g rfl rfl rfl rfl (Gives.indexAddrSlice (i) rfl rfl rfl rfl rfl rfl (by omega)) ?_
    refine DWp.load (.head _) rfl rfl rfl rfl rfl rfl (by show (byteCells (xorAt text (f.drop a) i) ++ g)[0 + i * 1]? = some (.int .u8 ((text.getD i 0).toNat)); rw [Nat.zero_add, Nat.mul_one, List.getElem?_append_left (by rw [byteCells_length, hpl]; omega)]; unfold byteCells; rw [List.getElem?_map, xorAt_get _ _ hfd hlt]; rfl) ?_
    have hai : IntKind.i64.wrap ((a : Int) + (i : Int)) = ((a + i : Nat) : Int) := by rw [i64_id] <;> omega
    have hfi : (f.drop a).getD i 0 = f.getD (a + i) 0 := by rw [List.getD_eq_getElem?_getD, List.getElem?_drop, ← List.getD_eq_getElem?_getD]
    refine DWp.evs 4 rfl ?_
    refine DWp.g rfl rfl rfl rfl (Gives.indexStr (b := (f.getD (a + i) 0)) rfl rfl rfl rfl (by rw [hai]; omega) (by rw [hai]; exact (getD_some (l := f) (i := a + i) (by omega)))) ?_
    refine DWp.evs 1 rfl ?_
    refine DWp.g rfl rfl rfl rfl (Gives.indexAddrSlice (i) rfl rfl rfl rfl rfl rfl (by omega)) ?_
    refine DWp.stepAll rfl rfl rfl rfl (Step.storeAs 0 (byteCells (xorAt text (f.drop a) (i + 1)) ++ g) rfl rfl rfl rfl rfl hBL rfl (.inr (by rw [← hcL, List.length_append, List.length_append, byteCells_length, byteCells_length, hpl, hn]; exact Nat.le_refl _)) rfl (by rw [List.length_append, byteCells_length, hpl]; show 0 + i * 1 + 1 ≤ _; omega) (by rw [← hfi]; exact xor_cell hfd hlt) rfl ?_)
    refine DWp.nil ?_
    refine Wp.region ?_
    refine OWp.evs 2 rfl ?_
    refine OWp.nil ?_
    exact ⟨i + 1, by omega, by omega, .cons rfl (.cons rfl (.cons rfl (.cons rfl (.cons' rfl (int_eq (i64_inc (by omega))) (.nil _))))), .refl _⟩
  have h1 := of_decide_eq_false h1
  obtain rfl : i = n := by omega
  have hfin : xorAt text (f.drop a) i = xors text (f.drop a) := by rw [hn]; exact xorAt_all _ _
  refine Wp.exit ?_
  refine Wp.seq (Wp.region ?_)
  refine OWp.evs 1 rfl ?_
  refine OWp.gives rfl rfl (Gives.bytesToStr (F := (L, cel (byteCells (xorAt text (f.drop a) i) ++ g) 5 (cap, cap + 1)) :: (L0, cel (hopC s k) 252) :: S) (l := xorAt text (f.drop a) i) (k := i) rfl rfl rfl rfl rfl (by have := Reads.row (S := (L, cel (byteCells (xorAt text (f.drop a) i) ++ g) 5 (cap, cap + 1)) :: (L0, cel (hopC s k) 252) :: S) (sz := 1) (k := i) (cap := cap) (.head _) (by rw [List.length_append, byteCells_length, hpl]; omega); rw [Nat.mul_one, List.take_append_of_le_length (by rw [byteCells_length, hpl]; omega), List.take_of_length_le (by rw [byteCells_length, hpl]; omega)] at this; exact this)) (fun _ h => h) ?_
  refine OWp.evs 1 rfl ?_
  refine OWp.nil ?_
  refine Wp.ret ⟨trivial, _, ⟨_, _, rfl, rfl, rfl⟩, ?_⟩
  exact ⟨S, subl, hfin ▸ H⟩
theorem hmacC {s : List UInt8} {k : HK} {l : List UInt8} (hks : KsIn S) (hk : k.mac.length + 1000 ≤ big) (hl : l.length + 1000 ≤ big) (H : Q (.string (str (macX k l))) S) : CallWp Tryz.prog B 131 #[.agg (hopC s k).toArray, .string (str l)] Q S := by
  refine CallWp.dropRet ?_
  refine CallWp.enter (args := [_, _]) Tryz.func131 rfl Tryz.ntmps131 rfl ?_
  refine Wp.seq (Wp.region ?_)
  refine OWp.step rfl (Step.box rfl rfl rfl ?_); intro L0 hBL0 hLL0
  refine OWp.evs 1 rfl ?_
  refine OWp.nil ?_
  refine Wp.seq (Wp.region ?_)
  refine OWp.evs 2 rfl ?_
  first | refine OWp.load (List.Mem.head _) rfl rfl rfl rfl rfl ?_ | refine OWp.load (List.Mem.tail _ (List.Mem.head _)) rfl rfl rfl rfl rfl ?_ | refine OWp.load (List.Mem.tail _ (List.Mem.tail _ (List.Mem.head _))) rfl rfl rfl rfl rfl ?_ | refine OWp.load (List.Mem.tail _ (List.Mem.tail _ (List.Mem.tail _ (List.Mem.head _)))) rfl rfl rfl rfl rfl ?_ | refine OWp.load (List.Mem.tail _ (List.Mem.tail _ (List.Mem.tail _ (List.Mem.tail _ (List.Mem.head _))))) rfl rfl rfl rfl rfl ?_ | refine OWp.load (List.Mem.tail _ (List.Mem.tail _ (List.Mem.tail _ (List.Mem.tail _ (List.Mem.tail _ (List.Mem.head _)))))) rfl rfl rfl rfl rfl ?_
  refine OWp.evs 1 rfl ?_
  refine OWp.step rfl (Step.buildSlice rfl rfl rfl ?_); intro L1 hBL1 hLL1
  refine OWp.step rfl (Step.call rfl rfl rfl rfl rfl rfl ((tagC (l := [l]) (Reads.row (k := 1) (sz := 1) (.head _) (Nat.le_of_ble_eq_true rfl)) (by decide) hks.cons.cons hk (by simpa using hl) ?_)))
  rw [show [l].flatten = l by simp]
  refine OWp.g rfl rfl (Gives.sliceStr (l := 0) (h' := 16) rfl rfl rfl rfl ⟨_, _, rfl, rfl⟩ (by decide) (by rw [hmac_len]; decide)) ?_
  refine OWp.evs 1 rfl ?_
  refine OWp.nil ?_
  refine Wp.ret ⟨trivial, _, ⟨_, _, rfl, rfl, rfl⟩, ?_⟩
  exact ⟨S, subl, H⟩
theorem madeC {s : List UInt8} (hks : KsIn S) (hs : s.length + 1000 ≤ big) (H : Q (.agg (hopC s (keysOf s)).toArray) S) : CallWp Tryz.prog B 130 #[.string (str s)] Q S := by
  refine CallWp.dropRet ?_
  refine CallWp.enter (args := [_]) Tryz.func130 rfl Tryz.ntmps130 rfl ?_
  refine Wp.seq (Wp.region ?_)
  refine OWp.step rfl (Step.alloc rfl rfl rfl ?_); intro L2 hBL2 hLL2
  refine OWp.nil ?_
  refine Wp.seq (Wp.region ?_)
  refine OWp.evs 1 rfl ?_
  refine OWp.g rfl rfl (Gives.build rfl rfl) ?_
  refine OWp.g rfl rfl (Gives.build rfl rfl) ?_
  refine OWp.step rfl (Step.alloc rfl rfl rfl ?_); intro L3 hBL3 hLL3
  refine OWp.step rfl (Step.storeAs 0 ([.string (str s), .string (str []), .string (str []), .string (str []), .string (str []), .string (str [])]) rfl rfl rfl rfl rfl (by assumption) rfl (Unfz.zero _) rfl (Nat.le_of_ble_eq_true rfl) rfl rfl ?_)
  refine OWp.nil ?_
  refine Wp.seq (Wp.regionDraw [0, 1, 3, 4, 6, 7, 9, 10, 12, 13, 2, 5, 8, 11, 14, 15, 16, 17] [2, 5, 8, 11, 14, 17] rfl (by decide +kernel) ?_)
  refine DWp.evs 1 rfl ?_
  first | refine DWp.load (List.Mem.head _) rfl rfl rfl rfl rfl rfl rfl ?_ | refine DWp.load (List.Mem.tail _ (List.Mem.head _)) rfl rfl rfl rfl rfl rfl rfl ?_ | refine DWp.load (List.Mem.tail _ (List.Mem.tail _ (List.Mem.head _))) rfl rfl rfl rfl rfl rfl rfl ?_ | refine DWp.load (List.Mem.tail _ (List.Mem.tail _ (List.Mem.tail _ (List.Mem.head _)))) rfl rfl rfl rfl rfl rfl rfl ?_ | refine DWp.load (List.Mem.tail _ (List.Mem.tail _ (List.Mem.tail _ (List.Mem.tail _ (List.Mem.head _))))) rfl rfl rfl rfl rfl rfl rfl ?_ | refine DWp.load (List.Mem.tail _ (List.Mem.tail _ (List.Mem.tail _ (List.Mem.tail _ (List.Mem.tail _ (List.Mem.head _)))))) rfl rfl rfl rfl rfl rfl rfl ?_
  refine DWp.evs 1 rfl ?_
  first | refine DWp.load (List.Mem.head _) rfl rfl rfl rfl rfl rfl rfl ?_ | refine DWp.load (List.Mem.tail _ (List.Mem.head _)) rfl rfl rfl rfl rfl rfl rfl ?_ | refine DWp.load (List.Mem.tail _ (List.Mem.tail _ (List.Mem.head _))) rfl rfl rfl rfl rfl rfl rfl ?_ | refine DWp.load (List.Mem.tail _ (List.Mem.tail _ (List.Mem.tail _ (List.Mem.head _)))) rfl rfl rfl rfl rfl rfl rfl ?_ | refine DWp.load (List.Mem.tail _ (List.Mem.tail _ (List.Mem.tail _ (List.Mem.tail _ (List.Mem.head _))))) rfl rfl rfl rfl rfl rfl rfl ?_ | refine DWp.load (List.Mem.tail _ (List.Mem.tail _ (List.Mem.tail _ (List.Mem.tail _ (List.Mem.tail _ (List.Mem.head _)))))) rfl rfl rfl rfl rfl rfl rfl ?_
  refine DWp.evs 1 rfl ?_
  first | refine DWp.load (List.Mem.head _) rfl rfl rfl rfl rfl rfl rfl ?_ | refine DWp.load (List.Mem.tail _ (List.Mem.head _)) rfl rfl rfl rfl rfl rfl rfl ?_ | refine DWp.load (List.Mem.tail _ (List.Mem.tail _ (List.Mem.head _))) rfl rfl rfl rfl rfl rfl rfl ?_ | refine DWp.load (List.Mem.tail _ (List.Mem.tail _ (List.Mem.tail _ (List.Mem.head _)))) rfl rfl rfl rfl rfl rfl rfl ?_ | refine DWp.load (List.Mem.tail _ (List.Mem.tail _ (List.Mem.tail _ (List.Mem.tail _ (List.Mem.head _))))) rfl rfl rfl rfl rfl rfl rfl ?_ | refine DWp.load (List.Mem.tail _ (List.Mem.tail _ (List.Mem.tail _ (List.Mem.tail _ (List.Mem.tail _ (List.Mem.head _)))))) rfl rfl rfl rfl rfl rfl rfl ?_
  refine DWp.evs 1 rfl ?_
  first | refine DWp.load (List.Mem.head _) rfl rfl rfl rfl rfl rfl rfl ?_ | refine DWp.load (List.Mem.tail _ (List.Mem.head _)) rfl rfl rfl rfl rfl rfl rfl ?_ | refine DWp.load (List.Mem.tail _ (List.Mem.tail _ (List.Mem.head _))) rfl rfl rfl rfl rfl rfl rfl ?_ | refine DWp.load (List.Mem.tail _ (List.Mem.tail _ (List.Mem.tail _ (List.Mem.head _)))) rfl rfl rfl rfl rfl rfl rfl ?_ | refine DWp.load (List.Mem.tail _ (List.Mem.tail _ (List.Mem.tail _ (List.Mem.tail _ (List.Mem.head _))))) rfl rfl rfl rfl rfl rfl rfl ?_ | refine DWp.load (List.Mem.tail _ (List.Mem.tail _ (List.Mem.tail _ (List.Mem.tail _ (List.Mem.tail _ (List.Mem.head _)))))) rfl rfl rfl rfl rfl rfl rfl ?_
  refine DWp.evs 1 rfl ?_
  first | refine DWp.load (List.Mem.head _) rfl rfl rfl rfl rfl rfl rfl ?_ | refine DWp.load (List.Mem.tail _ (List.Mem.head _)) rfl rfl rfl rfl rfl rfl rfl ?_ | refine DWp.load (List.Mem.tail _ (List.Mem.tail _ (List.Mem.head _))) rfl rfl rfl rfl rfl rfl rfl ?_ | refine DWp.load (List.Mem.tail _ (List.Mem.tail _ (List.Mem.tail _ (List.Mem.head _)))) rfl rfl rfl rfl rfl rfl rfl ?_ | refine DWp.load (List.Mem.tail _ (List.Mem.tail _ (List.Mem.tail _ (List.Mem.tail _ (List.Mem.head _))))) rfl rfl rfl rfl rfl rfl rfl ?_ | refine DWp.load (List.Mem.tail _ (List.Mem.tail _ (List.Mem.tail _ (List.Mem.tail _ (List.Mem.tail _ (List.Mem.head _)))))) rfl rfl rfl rfl rfl rfl rfl ?_
  refine DWp.stepGrow rfl rfl rfl (Step.call rfl rfl rfl rfl rfl rfl ((hkeyC (n := 32) hks.cons.cons (by decide) hs (by decide) ?_)))
  refine ⟨fun _ hy => hy, ?_⟩
  refine DWp.stepGrow rfl rfl rfl (Step.call rfl rfl rfl rfl rfl rfl ((hkeyC (n := 32) hks.cons.cons (by decide) hs (by decide) ?_)))
  refine ⟨fun _ hy => hy, ?_⟩
  refine DWp.stepGrow rfl rfl rfl (Step.call rfl rfl rfl rfl rfl rfl ((hkeyC (n := 32) hks.cons.cons (by decide) hs (by decide) ?_)))
  refine ⟨fun _ hy => hy, ?_⟩
  refine DWp.stepGrow rfl rfl rfl (Step.call rfl rfl rfl rfl rfl rfl ((hkeyC (n := 32) hks.cons.cons (by decide) hs (by decide) ?_)))
  refine ⟨fun _ hy => hy, ?_⟩
  refine DWp.stepGrow rfl rfl rfl (Step.call rfl rfl rfl rfl rfl rfl ((hkeyC (n := 16) hks.cons.cons (by decide) hs (by decide) ?_)))
  refine ⟨fun _ hy => hy, ?_⟩
  refine DWp.g rfl rfl rfl rfl (Gives.build rfl rfl) ?_
  refine DWp.evs 1 rfl ?_
  refine DWp.stepAll rfl rfl rfl rfl (Step.storeAs 0 (hopC s (keysOf s)) rfl rfl rfl rfl rfl (by assumption) rfl (Unfz.zero _) rfl (Nat.le_of_ble_eq_true rfl) rfl rfl ?_)
  refine DWp.nil ?_
  refine Wp.seq (Wp.region ?_)
  refine OWp.load (.head _) rfl rfl rfl rfl rfl ?_
  refine OWp.step rfl (Step.storeAs 1 (hopC s (keysOf s)) rfl rfl rfl rfl rfl (by assumption) rfl (Unfz.zero _) rfl (Nat.le_of_ble_eq_true rfl) rfl rfl ?_)
  refine OWp.nil ?_
  refine Wp.ret ⟨trivial, _, ⟨_, _, _, _, rfl, rfl, ⟨_, _, _, mems, (by first | assumption | rfl)⟩, rfl⟩, ?_⟩
  exact ⟨S, subl, H⟩
end
end Go.Proofs.D
