/- What functions of the given program do, one after the other, told by that layer. -/
import Derived.Test.YtkbagleekpgdeaaGreatDoorZM10x9e4f
import Derived.Test.YtkbagleekpgdeaaGreatDoorLgM3x97cf
import Derived.Test.YtkbagleekpgdeaaGreatDoorZTape1
import Derived.Test.YtkbagleekpgdeaaGreatDoorZM8x951f
import Derived.Test.YtkbagleekpgdeaaGreatDoorZM5x8f6a
import Derived.Test.YtkbagleekpgdeaaGreatDoorZM6xf9cb
import Derived.Test.YtkbagleekpgdeaaGreatDoorEHead
namespace Go.Proofs.C
open Go.Lg
set_option maxRecDepth 100000

theorem cells_put {a b c d : UInt8} {id : List UInt8} {i : Nat} {y : UInt8} (h : i < 20) (hy : id[i]? = some y) :
    wr (byteCells (a :: b :: c :: d :: (id.take i ++ List.replicate (20 - i) 0))) (4 + i) [.int .u8 (y.toNat : Int)] = byteCells (a :: b :: c :: d :: (id.take (i + 1) ++ List.replicate (20 - (i + 1)) 0)) := by
  have hl : i < id.length := (List.getElem?_eq_some_iff.1 hy).1
  obtain ⟨r, hr⟩ : ∃ r, 20 - i = r + 1 := ⟨20 - i - 1, by omega⟩
  have e1 : 20 - (i + 1) = r := by omega
  unfold wr
  rw [show [Value.int .u8 (y.toNat : Int)] = byteCells [y] from rfl]
  have hlen : (id.take i).length = i := by rw [List.length_take]; omega
  simp only [byteCells, ← List.map_take, ← List.map_drop, ← List.map_append]
  congr 1
  rw [show 4 + i = i + 4 by omega]
  show [a, b, c, d] ++ (id.take i ++ List.replicate (20 - i) 0).take i ++ [y] ++ (id.take i ++ List.replicate (20 - i) 0).drop (i + 1) = _
  rw [List.take_append_of_le_length (by omega), List.take_of_length_le (by omega), hr, e1]
  rw [List.drop_append, hlen, List.drop_of_length_le (by omega), List.replicate_succ]
  rw [List.take_add_one, hy]
  simp [show i + 1 - i = 1 by omega]

section
variable {B : Nat} {S R : Ents} {Q : Value → Ents → Prop}

theorem rcheckC {x : Hop} (h : Q (.int .i64 (hopE x)) S) : CallWp Tryz.prog B 71 #[.agg x.cells.toArray] Q S := by
  have hno : ¬ hopP x → Q (.int .i64 70) S := fun e => by rw [hopE_no e] at h; exact h
  have hyes : hopP x → Q (.int .i64 0) S := fun e => by rw [hopE_yes e] at h; exact h
  clear h
  unfold hopP at hno hyes
  refine CallWp.enter (args := [_]) Tryz.func71 rfl Tryz.ntmps71 rfl ?_
  refine Wp.seq (Wp.region ?_)
  refine OWp.step rfl (Step.box rfl rfl rfl ?_); intro L1 hBL1 hLL1
  refine OWp.evs 1 rfl ?_
  refine OWp.nil ?_
  refine Wp.seq (Wp.region ?_)
  refine OWp.evs 1 rfl ?_
  first | refine OWp.load (List.Mem.head _) rfl rfl rfl rfl rfl ?_ | refine OWp.load (List.Mem.tail _ (List.Mem.head _)) rfl rfl rfl rfl rfl ?_ | refine OWp.load (List.Mem.tail _ (List.Mem.tail _ (List.Mem.head _))) rfl rfl rfl rfl rfl ?_ | refine OWp.load (List.Mem.tail _ (List.Mem.tail _ (List.Mem.tail _ (List.Mem.head _)))) rfl rfl rfl rfl rfl ?_ | refine OWp.load (List.Mem.tail _ (List.Mem.tail _ (List.Mem.tail _ (List.Mem.tail _ (List.Mem.head _))))) rfl rfl rfl rfl rfl ?_ | refine OWp.load (List.Mem.tail _ (List.Mem.tail _ (List.Mem.tail _ (List.Mem.tail _ (List.Mem.tail _ (List.Mem.head _)))))) rfl rfl rfl rfl rfl ?_
  refine OWp.evs 3 rfl ?_
  refine OWp.nil ?_
  refine Wp.seqS (α := Unit) (fun _ => [(1, pt L1), (3, .bool (decide ((x.id.length : Int) = 16))), (4, .bool (decide (0 ≤ x.delay ∧ x.delay ≤ 4096)))]) (fun _ => (L1, cel x.cells 32) :: S) (fun _ => True) ?_ ?_
  · skip
    refine Wp.region ?_
    refine OWp.evs 1 rfl ?_
    first | refine OWp.load (List.Mem.head _) rfl rfl rfl rfl rfl ?_ | refine OWp.load (List.Mem.tail _ (List.Mem.head _)) rfl rfl rfl rfl rfl ?_ | refine OWp.load (List.Mem.tail _ (List.Mem.tail _ (List.Mem.head _))) rfl rfl rfl rfl rfl ?_ | refine OWp.load (List.Mem.tail _ (List.Mem.tail _ (List.Mem.tail _ (List.Mem.head _)))) rfl rfl rfl rfl rfl ?_ | refine OWp.load (List.Mem.tail _ (List.Mem.tail _ (List.Mem.tail _ (List.Mem.tail _ (List.Mem.head _))))) rfl rfl rfl rfl rfl ?_ | refine OWp.load (List.Mem.tail _ (List.Mem.tail _ (List.Mem.tail _ (List.Mem.tail _ (List.Mem.tail _ (List.Mem.head _)))))) rfl rfl rfl rfl rfl ?_
    refine OWp.evs 2 rfl ?_
    refine OWp.part 13 rfl (fun h1 => ?_) (fun h1 => ?_)
    · have h1 := of_decide_eq_true h1
      refine OWp.evs 1 rfl ?_
      first | refine OWp.load (List.Mem.head _) rfl rfl rfl rfl rfl ?_ | refine OWp.load (List.Mem.tail _ (List.Mem.head _)) rfl rfl rfl rfl rfl ?_ | refine OWp.load (List.Mem.tail _ (List.Mem.tail _ (List.Mem.head _))) rfl rfl rfl rfl rfl ?_ | refine OWp.load (List.Mem.tail _ (List.Mem.tail _ (List.Mem.tail _ (List.Mem.head _)))) rfl rfl rfl rfl rfl ?_ | refine OWp.load (List.Mem.tail _ (List.Mem.tail _ (List.Mem.tail _ (List.Mem.tail _ (List.Mem.head _))))) rfl rfl rfl rfl rfl ?_ | refine OWp.load (List.Mem.tail _ (List.Mem.tail _ (List.Mem.tail _ (List.Mem.tail _ (List.Mem.tail _ (List.Mem.head _)))))) rfl rfl rfl rfl rfl ?_
      refine OWp.evs 3 rfl ?_
      refine OWp.nil ?_
      exact ⟨(), trivial, .cons rfl (.cons rfl (.cons' rfl (congrArg Value.bool (decide_eq_decide.2 (show x.delay ≤ 4096 ↔ (0 ≤ x.delay ∧ x.delay ≤ 4096) by omega))) (.nil _))), .refl _⟩
    have h1 := of_decide_eq_false h1
    refine OWp.evs 5 rfl ?_
    refine OWp.nil ?_
    exact ⟨(), trivial, .cons rfl (.cons rfl (.cons' rfl (congrArg Value.bool (decide_eq_false (show ¬ (0 ≤ x.delay ∧ x.delay ≤ 4096) by omega)).symm) (.nil _))), .refl _⟩
  rintro ⟨⟩ -
  refine Wp.seq (Wp.region ?_)
  refine OWp.evs 1 rfl ?_
  refine OWp.nil ?_
  refine Wp.seq ?_
  refine Wp.seq (Wp.region ?_)
  refine OWp.evs 1 rfl ?_
  first | refine OWp.load (List.Mem.head _) rfl rfl rfl rfl rfl ?_ | refine OWp.load (List.Mem.tail _ (List.Mem.head _)) rfl rfl rfl rfl rfl ?_ | refine OWp.load (List.Mem.tail _ (List.Mem.tail _ (List.Mem.head _))) rfl rfl rfl rfl rfl ?_ | refine OWp.load (List.Mem.tail _ (List.Mem.tail _ (List.Mem.tail _ (List.Mem.head _)))) rfl rfl rfl rfl rfl ?_ | refine OWp.load (List.Mem.tail _ (List.Mem.tail _ (List.Mem.tail _ (List.Mem.tail _ (List.Mem.head _))))) rfl rfl rfl rfl rfl ?_ | refine OWp.load (List.Mem.tail _ (List.Mem.tail _ (List.Mem.tail _ (List.Mem.tail _ (List.Mem.tail _ (List.Mem.head _)))))) rfl rfl rfl rfl rfl ?_
  refine OWp.nil ?_
  refine Wp.block ?_
  refine Wp.seq (Wp.region ?_)
  refine OWp.evs 2 rfl ?_
  refine OWp.nil ?_
  refine Wp.cond rfl (fun k1 => ?_) (fun k1 => ?_)
  · have k1 := of_decide_eq_true k1
    refine Wp.region ?_
    refine OWp.evs 1 rfl ?_
    first | refine OWp.load (List.Mem.head _) rfl rfl rfl rfl rfl ?_ | refine OWp.load (List.Mem.tail _ (List.Mem.head _)) rfl rfl rfl rfl rfl ?_ | refine OWp.load (List.Mem.tail _ (List.Mem.tail _ (List.Mem.head _))) rfl rfl rfl rfl rfl ?_ | refine OWp.load (List.Mem.tail _ (List.Mem.tail _ (List.Mem.tail _ (List.Mem.head _)))) rfl rfl rfl rfl rfl ?_ | refine OWp.load (List.Mem.tail _ (List.Mem.tail _ (List.Mem.tail _ (List.Mem.tail _ (List.Mem.head _))))) rfl rfl rfl rfl rfl ?_ | refine OWp.load (List.Mem.tail _ (List.Mem.tail _ (List.Mem.tail _ (List.Mem.tail _ (List.Mem.tail _ (List.Mem.head _)))))) rfl rfl rfl rfl rfl ?_
    refine OWp.evs 2 rfl ?_
    refine OWp.part 25 rfl (fun a1 => ?_) (fun a1 => ?_)
    · have a1 := of_decide_eq_true a1
      refine OWp.evs 1 rfl ?_
      first | refine OWp.load (List.Mem.head _) rfl rfl rfl rfl rfl ?_ | refine OWp.load (List.Mem.tail _ (List.Mem.head _)) rfl rfl rfl rfl rfl ?_ | refine OWp.load (List.Mem.tail _ (List.Mem.tail _ (List.Mem.head _))) rfl rfl rfl rfl rfl ?_ | refine OWp.load (List.Mem.tail _ (List.Mem.tail _ (List.Mem.tail _ (List.Mem.head _)))) rfl rfl rfl rfl rfl ?_ | refine OWp.load (List.Mem.tail _ (List.Mem.tail _ (List.Mem.tail _ (List.Mem.tail _ (List.Mem.head _))))) rfl rfl rfl rfl rfl ?_ | refine OWp.load (List.Mem.tail _ (List.Mem.tail _ (List.Mem.tail _ (List.Mem.tail _ (List.Mem.tail _ (List.Mem.head _)))))) rfl rfl rfl rfl rfl ?_
      refine OWp.evs 3 rfl ?_
      refine OWp.part 30 rfl (fun a2 => ?_) (fun a2 => ?_)
      · have a2 := of_decide_eq_true a2
        refine OWp.evs 3 rfl ?_
        refine OWp.part 33 rfl (fun a3 => ?_) (fun a3 => ?_)
        · skip
          have a3 := of_decide_eq_true a3
          refine OWp.evs 1 rfl ?_
          first | refine OWp.load (List.Mem.head _) rfl rfl rfl rfl rfl ?_ | refine OWp.load (List.Mem.tail _ (List.Mem.head _)) rfl rfl rfl rfl rfl ?_ | refine OWp.load (List.Mem.tail _ (List.Mem.tail _ (List.Mem.head _))) rfl rfl rfl rfl rfl ?_ | refine OWp.load (List.Mem.tail _ (List.Mem.tail _ (List.Mem.tail _ (List.Mem.head _)))) rfl rfl rfl rfl rfl ?_ | refine OWp.load (List.Mem.tail _ (List.Mem.tail _ (List.Mem.tail _ (List.Mem.tail _ (List.Mem.head _))))) rfl rfl rfl rfl rfl ?_ | refine OWp.load (List.Mem.tail _ (List.Mem.tail _ (List.Mem.tail _ (List.Mem.tail _ (List.Mem.tail _ (List.Mem.head _)))))) rfl rfl rfl rfl rfl ?_
          refine OWp.evs 3 rfl ?_
          refine OWp.part 38 rfl (fun a4 => ?_) (fun a4 => ?_)
          · have a4 := of_decide_eq_true a4
            refine OWp.evs 1 rfl ?_
            first | refine OWp.load (List.Mem.head _) rfl rfl rfl rfl rfl ?_ | refine OWp.load (List.Mem.tail _ (List.Mem.head _)) rfl rfl rfl rfl rfl ?_ | refine OWp.load (List.Mem.tail _ (List.Mem.tail _ (List.Mem.head _))) rfl rfl rfl rfl rfl ?_ | refine OWp.load (List.Mem.tail _ (List.Mem.tail _ (List.Mem.tail _ (List.Mem.head _)))) rfl rfl rfl rfl rfl ?_ | refine OWp.load (List.Mem.tail _ (List.Mem.tail _ (List.Mem.tail _ (List.Mem.tail _ (List.Mem.head _))))) rfl rfl rfl rfl rfl ?_ | refine OWp.load (List.Mem.tail _ (List.Mem.tail _ (List.Mem.tail _ (List.Mem.tail _ (List.Mem.tail _ (List.Mem.head _)))))) rfl rfl rfl rfl rfl ?_
            refine OWp.evs 3 rfl ?_
            refine OWp.nil ?_
            refine Wp.seq ?_
            refine Wp.seq (Wp.region ?_)
            refine OWp.evs 2 rfl ?_
            refine OWp.nil ?_
            refine Wp.cond rfl (fun a5 => ?_) (fun a5 => ?_)
            · have a5 := ndT a5
              have a5 := mt nil_len.2 a5
              refine Wp.drop (S' := S) subl ?_
              refine Wp.seq (Wp.region ?_)
              refine OWp.evs 1 rfl ?_
              refine OWp.nil ?_
              refine Wp.ret ⟨trivial, _, ⟨_, _, rfl, rfl, rfl⟩, ?_⟩
              exact hno (by omega)
            have a5 := ndF a5
            have a5 := nil_len.1 a5
            refine Wp.skip ?_
            refine Wp.drop (S' := S) subl ?_
            refine Wp.seq (Wp.region ?_)
            refine OWp.evs 1 rfl ?_
            refine OWp.nil ?_
            refine Wp.ret ⟨trivial, _, ⟨_, _, rfl, rfl, rfl⟩, ?_⟩
            exact hyes (by omega)
          have a4 := of_decide_eq_false a4
          refine OWp.evs 5 rfl ?_
          refine OWp.nil ?_
          refine Wp.seq ?_
          refine Wp.drop (S' := S) subl ?_
          refine Wp.seq (Wp.region ?_)
          refine OWp.evs 2 rfl ?_
          refine OWp.nil ?_
          refine Wp.cond rfl (fun _ => ?_) (fun c => nomatch c)
          refine Wp.seq (Wp.region ?_)
          refine OWp.evs 1 rfl ?_
          refine OWp.nil ?_
          refine Wp.ret ⟨trivial, _, ⟨_, _, rfl, rfl, rfl⟩, ?_⟩
          exact hno (by omega)
        have a3 := of_decide_eq_false a3
        refine OWp.evs 10 rfl ?_
        refine OWp.nil ?_
        refine Wp.seq ?_
        refine Wp.drop (S' := S) subl ?_
        refine Wp.seq (Wp.region ?_)
        refine OWp.evs 2 rfl ?_
        refine OWp.nil ?_
        refine Wp.cond rfl (fun _ => ?_) (fun c => nomatch c)
        refine Wp.seq (Wp.region ?_)
        refine OWp.evs 1 rfl ?_
        refine OWp.nil ?_
        refine Wp.ret ⟨trivial, _, ⟨_, _, rfl, rfl, rfl⟩, ?_⟩
        exact hno (by omega)
      have a2 := of_decide_eq_false a2
      refine OWp.evs 13 rfl ?_
      refine OWp.nil ?_
      refine Wp.seq ?_
      refine Wp.drop (S' := S) subl ?_
      refine Wp.seq (Wp.region ?_)
      refine OWp.evs 2 rfl ?_
      refine OWp.nil ?_
      refine Wp.cond rfl (fun _ => ?_) (fun c => nomatch c)
      refine Wp.seq (Wp.region ?_)
      refine OWp.evs 1 rfl ?_
      refine OWp.nil ?_
      refine Wp.ret ⟨trivial, _, ⟨_, _, rfl, rfl, rfl⟩, ?_⟩
      exact hno (by omega)
    have a1 := of_decide_eq_false a1
    refine OWp.evs 18 rfl ?_
    refine OWp.nil ?_
    refine Wp.seq ?_
    refine Wp.drop (S' := S) subl ?_
    refine Wp.seq (Wp.region ?_)
    refine OWp.evs 2 rfl ?_
    refine OWp.nil ?_
    refine Wp.cond rfl (fun _ => ?_) (fun c => nomatch c)
    refine Wp.seq (Wp.region ?_)
    refine OWp.evs 1 rfl ?_
    refine OWp.nil ?_
    refine Wp.ret ⟨trivial, _, ⟨_, _, rfl, rfl, rfl⟩, ?_⟩
    exact hno (by omega)
  have k1 := of_decide_eq_false k1
  refine Wp.seq (Wp.region ?_)
  refine OWp.evs 2 rfl ?_
  refine OWp.nil ?_
  refine Wp.cond rfl (fun k2 => ?_) (fun k2 => ?_)
  · have k2 := of_decide_eq_true k2
    refine Wp.region ?_
    refine OWp.evs 1 rfl ?_
    first | refine OWp.load (List.Mem.head _) rfl rfl rfl rfl rfl ?_ | refine OWp.load (List.Mem.tail _ (List.Mem.head _)) rfl rfl rfl rfl rfl ?_ | refine OWp.load (List.Mem.tail _ (List.Mem.tail _ (List.Mem.head _))) rfl rfl rfl rfl rfl ?_ | refine OWp.load (List.Mem.tail _ (List.Mem.tail _ (List.Mem.tail _ (List.Mem.head _)))) rfl rfl rfl rfl rfl ?_ | refine OWp.load (List.Mem.tail _ (List.Mem.tail _ (List.Mem.tail _ (List.Mem.tail _ (List.Mem.head _))))) rfl rfl rfl rfl rfl ?_ | refine OWp.load (List.Mem.tail _ (List.Mem.tail _ (List.Mem.tail _ (List.Mem.tail _ (List.Mem.tail _ (List.Mem.head _)))))) rfl rfl rfl rfl rfl ?_
    refine OWp.evs 2 rfl ?_
    refine OWp.part 48 rfl (fun a1 => ?_) (fun a1 => ?_)
    · have a1 := of_decide_eq_true a1
      refine OWp.evs 1 rfl ?_
      first | refine OWp.load (List.Mem.head _) rfl rfl rfl rfl rfl ?_ | refine OWp.load (List.Mem.tail _ (List.Mem.head _)) rfl rfl rfl rfl rfl ?_ | refine OWp.load (List.Mem.tail _ (List.Mem.tail _ (List.Mem.head _))) rfl rfl rfl rfl rfl ?_ | refine OWp.load (List.Mem.tail _ (List.Mem.tail _ (List.Mem.tail _ (List.Mem.head _)))) rfl rfl rfl rfl rfl ?_ | refine OWp.load (List.Mem.tail _ (List.Mem.tail _ (List.Mem.tail _ (List.Mem.tail _ (List.Mem.head _))))) rfl rfl rfl rfl rfl ?_ | refine OWp.load (List.Mem.tail _ (List.Mem.tail _ (List.Mem.tail _ (List.Mem.tail _ (List.Mem.tail _ (List.Mem.head _)))))) rfl rfl rfl rfl rfl ?_
      refine OWp.evs 3 rfl ?_
      refine OWp.part 53 rfl (fun a2 => ?_) (fun a2 => ?_)
      · have a2 := of_decide_eq_true a2
        refine OWp.evs 3 rfl ?_
        refine OWp.part 56 rfl (fun a3 => ?_) (fun a3 => ?_)
        · skip
          have a3 := of_decide_eq_true a3
          refine OWp.evs 3 rfl ?_
          refine OWp.part 59 rfl (fun a4 => ?_) (fun a4 => ?_)
          · skip
            have a4 := of_decide_eq_true a4
            refine OWp.evs 1 rfl ?_
            first | refine OWp.load (List.Mem.head _) rfl rfl rfl rfl rfl ?_ | refine OWp.load (List.Mem.tail _ (List.Mem.head _)) rfl rfl rfl rfl rfl ?_ | refine OWp.load (List.Mem.tail _ (List.Mem.tail _ (List.Mem.head _))) rfl rfl rfl rfl rfl ?_ | refine OWp.load (List.Mem.tail _ (List.Mem.tail _ (List.Mem.tail _ (List.Mem.head _)))) rfl rfl rfl rfl rfl ?_ | refine OWp.load (List.Mem.tail _ (List.Mem.tail _ (List.Mem.tail _ (List.Mem.tail _ (List.Mem.head _))))) rfl rfl rfl rfl rfl ?_ | refine OWp.load (List.Mem.tail _ (List.Mem.tail _ (List.Mem.tail _ (List.Mem.tail _ (List.Mem.tail _ (List.Mem.head _)))))) rfl rfl rfl rfl rfl ?_
            refine OWp.evs 3 rfl ?_
            refine OWp.nil ?_
            refine Wp.seq ?_
            refine Wp.seq (Wp.region ?_)
            refine OWp.evs 2 rfl ?_
            refine OWp.nil ?_
            refine Wp.cond rfl (fun a5 => ?_) (fun a5 => ?_)
            · have a5 := ndT a5
              refine Wp.drop (S' := S) subl ?_
              refine Wp.seq (Wp.region ?_)
              refine OWp.evs 1 rfl ?_
              refine OWp.nil ?_
              refine Wp.ret ⟨trivial, _, ⟨_, _, rfl, rfl, rfl⟩, ?_⟩
              exact hno (by omega)
            have a5 := ndF a5
            refine Wp.skip ?_
            refine Wp.drop (S' := S) subl ?_
            refine Wp.seq (Wp.region ?_)
            refine OWp.evs 1 rfl ?_
            refine OWp.nil ?_
            refine Wp.ret ⟨trivial, _, ⟨_, _, rfl, rfl, rfl⟩, ?_⟩
            exact hyes (by omega)
          have a4 := of_decide_eq_false a4
          refine OWp.evs 5 rfl ?_
          refine OWp.nil ?_
          refine Wp.seq ?_
          refine Wp.drop (S' := S) subl ?_
          refine Wp.seq (Wp.region ?_)
          refine OWp.evs 2 rfl ?_
          refine OWp.nil ?_
          refine Wp.cond rfl (fun _ => ?_) (fun c => nomatch c)
          refine Wp.seq (Wp.region ?_)
          refine OWp.evs 1 rfl ?_
          refine OWp.nil ?_
          refine Wp.ret ⟨trivial, _, ⟨_, _, rfl, rfl, rfl⟩, ?_⟩
          exact hno (by omega)
        have a3 := of_decide_eq_false a3
        refine OWp.evs 8 rfl ?_
        refine OWp.nil ?_
        refine Wp.seq ?_
        refine Wp.drop (S' := S) subl ?_
        refine Wp.seq (Wp.region ?_)
        refine OWp.evs 2 rfl ?_
        refine OWp.nil ?_
        refine Wp.cond rfl (fun _ => ?_) (fun c => nomatch c)
        refine Wp.seq (Wp.region ?_)
        refine OWp.evs 1 rfl ?_
        refine OWp.nil ?_
        refine Wp.ret ⟨trivial, _, ⟨_, _, rfl, rfl, rfl⟩, ?_⟩
        exact hno (by omega)
      have a2 := of_decide_eq_false a2
      refine OWp.evs 11 rfl ?_
      refine OWp.nil ?_
      refine Wp.seq ?_
      refine Wp.drop (S' := S) subl ?_
      refine Wp.seq (Wp.region ?_)
      refine OWp.evs 2 rfl ?_
      refine OWp.nil ?_
      refine Wp.cond rfl (fun _ => ?_) (fun c => nomatch c)
      refine Wp.seq (Wp.region ?_)
      refine OWp.evs 1 rfl ?_
      refine OWp.nil ?_
      refine Wp.ret ⟨trivial, _, ⟨_, _, rfl, rfl, rfl⟩, ?_⟩
      exact hno (by omega)
    have a1 := of_decide_eq_false a1
    refine OWp.evs 16 rfl ?_
    refine OWp.nil ?_
    refine Wp.seq ?_
    refine Wp.drop (S' := S) subl ?_
    refine Wp.seq (Wp.region ?_)
    refine OWp.evs 2 rfl ?_
    refine OWp.nil ?_
    refine Wp.cond rfl (fun _ => ?_) (fun c => nomatch c)
    refine Wp.seq (Wp.region ?_)
    refine OWp.evs 1 rfl ?_
    refine OWp.nil ?_
    refine Wp.ret ⟨trivial, _, ⟨_, _, rfl, rfl, rfl⟩, ?_⟩
    exact hno (by omega)
  have k2 := of_decide_eq_false k2
  refine Wp.seq (Wp.region ?_)
  refine OWp.evs 2 rfl ?_
  refine OWp.nil ?_
  refine Wp.cond rfl (fun k3 => ?_) (fun k3 => ?_)
  · have k3 := of_decide_eq_true k3
    refine Wp.region ?_
    refine OWp.evs 2 rfl ?_
    refine OWp.part 67 rfl (fun a4 => ?_) (fun a4 => ?_)
    · skip
      have a4 := of_decide_eq_true a4
      refine OWp.evs 1 rfl ?_
      first | refine OWp.load (List.Mem.head _) rfl rfl rfl rfl rfl ?_ | refine OWp.load (List.Mem.tail _ (List.Mem.head _)) rfl rfl rfl rfl rfl ?_ | refine OWp.load (List.Mem.tail _ (List.Mem.tail _ (List.Mem.head _))) rfl rfl rfl rfl rfl ?_ | refine OWp.load (List.Mem.tail _ (List.Mem.tail _ (List.Mem.tail _ (List.Mem.head _)))) rfl rfl rfl rfl rfl ?_ | refine OWp.load (List.Mem.tail _ (List.Mem.tail _ (List.Mem.tail _ (List.Mem.tail _ (List.Mem.head _))))) rfl rfl rfl rfl rfl ?_ | refine OWp.load (List.Mem.tail _ (List.Mem.tail _ (List.Mem.tail _ (List.Mem.tail _ (List.Mem.tail _ (List.Mem.head _)))))) rfl rfl rfl rfl rfl ?_
      refine OWp.evs 3 rfl ?_
      refine OWp.part 72 rfl (fun a1 => ?_) (fun a1 => ?_)
      · have a1 := of_decide_eq_true a1
        refine OWp.evs 1 rfl ?_
        first | refine OWp.load (List.Mem.head _) rfl rfl rfl rfl rfl ?_ | refine OWp.load (List.Mem.tail _ (List.Mem.head _)) rfl rfl rfl rfl rfl ?_ | refine OWp.load (List.Mem.tail _ (List.Mem.tail _ (List.Mem.head _))) rfl rfl rfl rfl rfl ?_ | refine OWp.load (List.Mem.tail _ (List.Mem.tail _ (List.Mem.tail _ (List.Mem.head _)))) rfl rfl rfl rfl rfl ?_ | refine OWp.load (List.Mem.tail _ (List.Mem.tail _ (List.Mem.tail _ (List.Mem.tail _ (List.Mem.head _))))) rfl rfl rfl rfl rfl ?_ | refine OWp.load (List.Mem.tail _ (List.Mem.tail _ (List.Mem.tail _ (List.Mem.tail _ (List.Mem.tail _ (List.Mem.head _)))))) rfl rfl rfl rfl rfl ?_
        refine OWp.evs 3 rfl ?_
        refine OWp.part 77 rfl (fun a2 => ?_) (fun a2 => ?_)
        · have a2 := of_decide_eq_true a2
          refine OWp.evs 1 rfl ?_
          first | refine OWp.load (List.Mem.head _) rfl rfl rfl rfl rfl ?_ | refine OWp.load (List.Mem.tail _ (List.Mem.head _)) rfl rfl rfl rfl rfl ?_ | refine OWp.load (List.Mem.tail _ (List.Mem.tail _ (List.Mem.head _))) rfl rfl rfl rfl rfl ?_ | refine OWp.load (List.Mem.tail _ (List.Mem.tail _ (List.Mem.tail _ (List.Mem.head _)))) rfl rfl rfl rfl rfl ?_ | refine OWp.load (List.Mem.tail _ (List.Mem.tail _ (List.Mem.tail _ (List.Mem.tail _ (List.Mem.head _))))) rfl rfl rfl rfl rfl ?_ | refine OWp.load (List.Mem.tail _ (List.Mem.tail _ (List.Mem.tail _ (List.Mem.tail _ (List.Mem.tail _ (List.Mem.head _)))))) rfl rfl rfl rfl rfl ?_
          refine OWp.evs 3 rfl ?_
          refine OWp.nil ?_
          refine Wp.seq ?_
          refine Wp.seq (Wp.region ?_)
          refine OWp.evs 2 rfl ?_
          refine OWp.nil ?_
          refine Wp.cond rfl (fun a3 => ?_) (fun a3 => ?_)
          · have a3 := ndT a3
            refine Wp.drop (S' := S) subl ?_
            refine Wp.seq (Wp.region ?_)
            refine OWp.evs 1 rfl ?_
            refine OWp.nil ?_
            refine Wp.ret ⟨trivial, _, ⟨_, _, rfl, rfl, rfl⟩, ?_⟩
            exact hno (by omega)
          have a3 := ndF a3
          refine Wp.skip ?_
          refine Wp.drop (S' := S) subl ?_
          refine Wp.seq (Wp.region ?_)
          refine OWp.evs 1 rfl ?_
          refine OWp.nil ?_
          refine Wp.ret ⟨trivial, _, ⟨_, _, rfl, rfl, rfl⟩, ?_⟩
          exact hyes (by omega)
        have a2 := of_decide_eq_false a2
        refine OWp.evs 5 rfl ?_
        refine OWp.nil ?_
        refine Wp.seq ?_
        refine Wp.drop (S' := S) subl ?_
        refine Wp.seq (Wp.region ?_)
        refine OWp.evs 2 rfl ?_
        refine OWp.nil ?_
        refine Wp.cond rfl (fun _ => ?_) (fun c => nomatch c)
        refine Wp.seq (Wp.region ?_)
        refine OWp.evs 1 rfl ?_
        refine OWp.nil ?_
        refine Wp.ret ⟨trivial, _, ⟨_, _, rfl, rfl, rfl⟩, ?_⟩
        exact hno (by omega)
      have a1 := of_decide_eq_false a1
      refine OWp.evs 10 rfl ?_
      refine OWp.nil ?_
      refine Wp.seq ?_
      refine Wp.drop (S' := S) subl ?_
      refine Wp.seq (Wp.region ?_)
      refine OWp.evs 2 rfl ?_
      refine OWp.nil ?_
      refine Wp.cond rfl (fun _ => ?_) (fun c => nomatch c)
      refine Wp.seq (Wp.region ?_)
      refine OWp.evs 1 rfl ?_
      refine OWp.nil ?_
      refine Wp.ret ⟨trivial, _, ⟨_, _, rfl, rfl, rfl⟩, ?_⟩
      exact hno (by omega)
    have a4 := of_decide_eq_false a4
    refine OWp.evs 15 rfl ?_
    refine OWp.nil ?_
    refine Wp.seq ?_
    refine Wp.drop (S' := S) subl ?_
    refine Wp.seq (Wp.region ?_)
    refine OWp.evs 2 rfl ?_
    refine OWp.nil ?_
    refine Wp.cond rfl (fun _ => ?_) (fun c => nomatch c)
    refine Wp.seq (Wp.region ?_)
    refine OWp.evs 1 rfl ?_
    refine OWp.nil ?_
    refine Wp.ret ⟨trivial, _, ⟨_, _, rfl, rfl, rfl⟩, ?_⟩
    exact hno (by omega)
  have k3 := of_decide_eq_false k3
  refine Wp.seq (Wp.region ?_)
  refine OWp.evs 2 rfl ?_
  refine OWp.nil ?_
  refine Wp.cond rfl (fun k4 => ?_) (fun k4 => ?_)
  · have k4 := of_decide_eq_true k4
    refine Wp.region ?_
    first | refine OWp.load (List.Mem.head _) rfl rfl rfl rfl rfl ?_ | refine OWp.load (List.Mem.tail _ (List.Mem.head _)) rfl rfl rfl rfl rfl ?_ | refine OWp.load (List.Mem.tail _ (List.Mem.tail _ (List.Mem.head _))) rfl rfl rfl rfl rfl ?_ | refine OWp.load (List.Mem.tail _ (List.Mem.tail _ (List.Mem.tail _ (List.Mem.head _)))) rfl rfl rfl rfl rfl ?_ | refine OWp.load (List.Mem.tail _ (List.Mem.tail _ (List.Mem.tail _ (List.Mem.tail _ (List.Mem.head _))))) rfl rfl rfl rfl rfl ?_ | refine OWp.load (List.Mem.tail _ (List.Mem.tail _ (List.Mem.tail _ (List.Mem.tail _ (List.Mem.tail _ (List.Mem.head _)))))) rfl rfl rfl rfl rfl ?_
    refine OWp.g rfl rfl (Gives.build rfl rfl) ?_
    refine OWp.g rfl rfl (Gives.eqStruct (r := eqHop x ⟨4, 0, 0, 0, []⟩) 10 rfl rfl rfl rfl hopG (by rfl)) ?_
    refine OWp.evs 1 rfl ?_
    refine OWp.nil ?_
    refine Wp.seq ?_
    refine Wp.seq (Wp.region ?_)
    refine OWp.evs 2 rfl ?_
    refine OWp.nil ?_
    refine Wp.cond rfl (fun a1 => ?_) (fun a1 => ?_)
    · skip
      refine Wp.drop (S' := S) subl ?_
      refine Wp.seq (Wp.region ?_)
      refine OWp.evs 1 rfl ?_
      refine OWp.nil ?_
      refine Wp.ret ⟨trivial, _, ⟨_, _, rfl, rfl, rfl⟩, ?_⟩
      refine hno fun hp => ?_
      have : eqHop x ⟨4, 0, 0, 0, []⟩ = true := eqHop_iff.2 (Hop.ext (by show x.kind = 4; omega) (by show x.node = 0; omega) (by show x.user = 0; omega) (by show x.delay = 0; omega) (nil_len.2 (by omega)))
      rw [this] at a1
      cases a1
    refine Wp.skip ?_
    refine Wp.drop (S' := S) subl ?_
    refine Wp.seq (Wp.region ?_)
    refine OWp.evs 1 rfl ?_
    refine OWp.nil ?_
    refine Wp.ret ⟨trivial, _, ⟨_, _, rfl, rfl, rfl⟩, ?_⟩
    have : eqHop x ⟨4, 0, 0, 0, []⟩ = true := by simpa using a1
    have := eqHop_iff.1 this
    have e3 := congrArg Hop.node this
    have e4 := congrArg Hop.user this
    have e5 := congrArg Hop.delay this
    have e6 := nil_len.1 (congrArg Hop.id this)
    simp only at e3 e4 e5
    exact hyes (by omega)
  have k4 := of_decide_eq_false k4
  refine Wp.drop (S' := S) subl ?_
  refine Wp.region ?_
  refine OWp.evs 1 rfl ?_
  refine OWp.nil ?_
  refine Wp.seq ?_
  refine Wp.seq (Wp.region ?_)
  refine OWp.evs 2 rfl ?_
  refine OWp.nil ?_
  refine Wp.cond rfl (fun _ => ?_) (fun c => nomatch c)
  refine Wp.seq (Wp.region ?_)
  refine OWp.evs 1 rfl ?_
  refine OWp.nil ?_
  refine Wp.ret ⟨trivial, _, ⟨_, _, rfl, rfl, rfl⟩, ?_⟩
  exact hno (by omega)
theorem rbytesHop {x : Hop} (hp : hopP x) (h : Q (.string (str (hopB x))) S) : CallWp Tryz.prog B 33 #[.agg x.cells.toArray] Q S := by
  have hid : x.id.length ≤ 20 := by unfold hopP at hp; omega
  have hdl : 0 ≤ x.delay ∧ x.delay ≤ 4096 := by unfold hopP at hp; omega
  have hnu : 0 ≤ x.node + x.user ∧ x.node + x.user ≤ 64 := by unfold hopP at hp; omega
  have h1 : IntKind.u8.wrap (IntKind.i64.wrap (x.node + x.user)) = ((u8 (x.node + x.user)).toNat : Int) := by rw [i64_id (by omega) (by omega), u8_wrap]
  have h2 : IntKind.u8.wrap (IntKind.i64.wrap (x.delay.tdiv 256)) = ((u8 (x.delay / 256)).toNat : Int) := by rw [Int.tdiv_eq_ediv_of_nonneg (by omega), i64_id (by omega) (by omega), u8_wrap]
  have h3 : IntKind.u8.wrap (x.delay.tmod 256) = ((u8 x.delay).toNat : Int) := by rw [Int.tmod_eq_emod_of_nonneg (by omega), u8_wrap, u8_mod]
  refine CallWp.enter (args := [_]) Tryz.func33 rfl Tryz.ntmps33 rfl ?_
  refine Wp.seq (Wp.region ?_)
  refine OWp.step rfl (Step.box rfl rfl rfl ?_); intro L1 hBL1 hLL1
  refine OWp.evs 1 rfl ?_
  refine OWp.nil ?_
  refine Wp.seq (Wp.region ?_)
  refine OWp.step rfl (Step.makeSlice (len := 24) (cap := 24) rfl rfl rfl rfl rfl rfl (by decide) rfl rfl (Nat.le_refl _) (by decide) (by decide) ?_)
  intro L hBL hLL
  refine OWp.evs 1 rfl ?_
  refine OWp.nil ?_
  refine Wp.seq (Wp.region ?_)
  refine OWp.evs 2 rfl ?_
  first | refine OWp.load (List.Mem.head _) rfl rfl rfl rfl rfl ?_ | refine OWp.load (List.Mem.tail _ (List.Mem.head _)) rfl rfl rfl rfl rfl ?_ | refine OWp.load (List.Mem.tail _ (List.Mem.tail _ (List.Mem.head _))) rfl rfl rfl rfl rfl ?_ | refine OWp.load (List.Mem.tail _ (List.Mem.tail _ (List.Mem.tail _ (List.Mem.head _)))) rfl rfl rfl rfl rfl ?_ | refine OWp.load (List.Mem.tail _ (List.Mem.tail _ (List.Mem.tail _ (List.Mem.tail _ (List.Mem.head _))))) rfl rfl rfl rfl rfl ?_ | refine OWp.load (List.Mem.tail _ (List.Mem.tail _ (List.Mem.tail _ (List.Mem.tail _ (List.Mem.tail _ (List.Mem.head _)))))) rfl rfl rfl rfl rfl ?_
  refine OWp.evs 1 rfl ?_
  refine OWp.g rfl rfl (Gives.indexAddrSlice (0) rfl rfl rfl rfl rfl rfl (by decide)) ?_
  refine OWp.step rfl (Step.storeAs 0 (byteCells (u8 x.kind :: 0 :: 0 :: 0 :: List.replicate 20 0)) rfl rfl rfl rfl rfl (by assumption) rfl (Unfz.zero _) rfl (Nat.le_of_ble_eq_true rfl) (by rw [u8_wrap]; rfl) rfl ?_)
  refine OWp.nil ?_
  refine Wp.seq (Wp.region ?_)
  refine OWp.evs 2 rfl ?_
  first | refine OWp.load (List.Mem.head _) rfl rfl rfl rfl rfl ?_ | refine OWp.load (List.Mem.tail _ (List.Mem.head _)) rfl rfl rfl rfl rfl ?_ | refine OWp.load (List.Mem.tail _ (List.Mem.tail _ (List.Mem.head _))) rfl rfl rfl rfl rfl ?_ | refine OWp.load (List.Mem.tail _ (List.Mem.tail _ (List.Mem.tail _ (List.Mem.head _)))) rfl rfl rfl rfl rfl ?_ | refine OWp.load (List.Mem.tail _ (List.Mem.tail _ (List.Mem.tail _ (List.Mem.tail _ (List.Mem.head _))))) rfl rfl rfl rfl rfl ?_ | refine OWp.load (List.Mem.tail _ (List.Mem.tail _ (List.Mem.tail _ (List.Mem.tail _ (List.Mem.tail _ (List.Mem.head _)))))) rfl rfl rfl rfl rfl ?_
  refine OWp.evs 1 rfl ?_
  first | refine OWp.load (List.Mem.head _) rfl rfl rfl rfl rfl ?_ | refine OWp.load (List.Mem.tail _ (List.Mem.head _)) rfl rfl rfl rfl rfl ?_ | refine OWp.load (List.Mem.tail _ (List.Mem.tail _ (List.Mem.head _))) rfl rfl rfl rfl rfl ?_ | refine OWp.load (List.Mem.tail _ (List.Mem.tail _ (List.Mem.tail _ (List.Mem.head _)))) rfl rfl rfl rfl rfl ?_ | refine OWp.load (List.Mem.tail _ (List.Mem.tail _ (List.Mem.tail _ (List.Mem.tail _ (List.Mem.head _))))) rfl rfl rfl rfl rfl ?_ | refine OWp.load (List.Mem.tail _ (List.Mem.tail _ (List.Mem.tail _ (List.Mem.tail _ (List.Mem.tail _ (List.Mem.head _)))))) rfl rfl rfl rfl rfl ?_
  refine OWp.evs 2 rfl ?_
  refine OWp.g rfl rfl (Gives.indexAddrSlice (1) rfl rfl rfl rfl rfl rfl (by decide)) ?_
  refine OWp.step rfl (Step.storeAs 0 (byteCells (u8 x.kind :: u8 (x.node + x.user) :: 0 :: 0 :: List.replicate 20 0)) rfl rfl rfl rfl rfl (by assumption) rfl (Unfz.zero _) rfl (Nat.le_of_ble_eq_true rfl) (by rw [h1]; rfl) rfl ?_)
  refine OWp.nil ?_
  refine Wp.seq (Wp.region ?_)
  refine OWp.evs 2 rfl ?_
  first | refine OWp.load (List.Mem.head _) rfl rfl rfl rfl rfl ?_ | refine OWp.load (List.Mem.tail _ (List.Mem.head _)) rfl rfl rfl rfl rfl ?_ | refine OWp.load (List.Mem.tail _ (List.Mem.tail _ (List.Mem.head _))) rfl rfl rfl rfl rfl ?_ | refine OWp.load (List.Mem.tail _ (List.Mem.tail _ (List.Mem.tail _ (List.Mem.head _)))) rfl rfl rfl rfl rfl ?_ | refine OWp.load (List.Mem.tail _ (List.Mem.tail _ (List.Mem.tail _ (List.Mem.tail _ (List.Mem.head _))))) rfl rfl rfl rfl rfl ?_ | refine OWp.load (List.Mem.tail _ (List.Mem.tail _ (List.Mem.tail _ (List.Mem.tail _ (List.Mem.tail _ (List.Mem.head _)))))) rfl rfl rfl rfl rfl ?_
  refine OWp.evs 2 rfl ?_
  refine OWp.g rfl rfl (Gives.indexAddrSlice (2) rfl rfl rfl rfl rfl rfl (by decide)) ?_
  refine OWp.step rfl (Step.storeAs 0 (byteCells (u8 x.kind :: u8 (x.node + x.user) :: u8 (x.delay / 256) :: 0 :: List.replicate 20 0)) rfl rfl rfl rfl rfl (by assumption) rfl (Unfz.zero _) rfl (Nat.le_of_ble_eq_true rfl) (by exact (congrArg (fun z => wr _ _ (Value.int .u8 z).cells.toList) h2).trans rfl) rfl ?_)
  refine OWp.nil ?_
  refine Wp.seq (Wp.region ?_)
  refine OWp.evs 2 rfl ?_
  first | refine OWp.load (List.Mem.head _) rfl rfl rfl rfl rfl ?_ | refine OWp.load (List.Mem.tail _ (List.Mem.head _)) rfl rfl rfl rfl rfl ?_ | refine OWp.load (List.Mem.tail _ (List.Mem.tail _ (List.Mem.head _))) rfl rfl rfl rfl rfl ?_ | refine OWp.load (List.Mem.tail _ (List.Mem.tail _ (List.Mem.tail _ (List.Mem.head _)))) rfl rfl rfl rfl rfl ?_ | refine OWp.load (List.Mem.tail _ (List.Mem.tail _ (List.Mem.tail _ (List.Mem.tail _ (List.Mem.head _))))) rfl rfl rfl rfl rfl ?_ | refine OWp.load (List.Mem.tail _ (List.Mem.tail _ (List.Mem.tail _ (List.Mem.tail _ (List.Mem.tail _ (List.Mem.head _)))))) rfl rfl rfl rfl rfl ?_
  refine OWp.evs 2 rfl ?_
  refine OWp.g rfl rfl (Gives.indexAddrSlice (3) rfl rfl rfl rfl rfl rfl (by decide)) ?_
  refine OWp.step rfl (Step.storeAs 0 (byteCells (u8 x.kind :: u8 (x.node + x.user) :: u8 (x.delay / 256) :: u8 x.delay :: List.replicate 20 0)) rfl rfl rfl rfl rfl (by assumption) rfl (Unfz.zero _) rfl (Nat.le_of_ble_eq_true rfl) (by exact (congrArg (fun z => wr _ _ (Value.int .u8 z).cells.toList) h3).trans rfl) rfl ?_)
  refine OWp.nil ?_
  refine Wp.seq ?_
  refine Wp.seq (Wp.region ?_)
  refine OWp.evs 1 rfl ?_
  refine OWp.nil ?_
  refine Wp.block ?_
  refine Wp.loopS (α := Nat) (fun i => 20 - i) (fun i => [(4, .int .i64 (i : Int)), (3, .slice (some ⟨L, 0, none⟩) 24 24), (1, pt L1)]) (fun i => (L, cel (byteCells (u8 x.kind :: u8 (x.node + x.user) :: u8 (x.delay / 256) :: u8 x.delay :: (x.id.take i ++ List.replicate (20 - i) 0))) 5) :: (L1, cel x.cells 32) :: S) (fun i => i ≤ x.id.length) 0 ?_ (.refl _) (Nat.zero_le _) ?_
  · exact .cons rfl (.cons rfl (.cons rfl (.nil _)))
  intro i hi
  refine Wp.seq ?_
  refine Wp.seq (Wp.region ?_)
  refine OWp.evs 2 rfl ?_
  first | refine OWp.load (List.Mem.head _) rfl rfl rfl rfl rfl ?_ | refine OWp.load (List.Mem.tail _ (List.Mem.head _)) rfl rfl rfl rfl rfl ?_ | refine OWp.load (List.Mem.tail _ (List.Mem.tail _ (List.Mem.head _))) rfl rfl rfl rfl rfl ?_ | refine OWp.load (List.Mem.tail _ (List.Mem.tail _ (List.Mem.tail _ (List.Mem.head _)))) rfl rfl rfl rfl rfl ?_ | refine OWp.load (List.Mem.tail _ (List.Mem.tail _ (List.Mem.tail _ (List.Mem.tail _ (List.Mem.head _))))) rfl rfl rfl rfl rfl ?_ | refine OWp.load (List.Mem.tail _ (List.Mem.tail _ (List.Mem.tail _ (List.Mem.tail _ (List.Mem.tail _ (List.Mem.head _)))))) rfl rfl rfl rfl rfl ?_
  refine OWp.evs 2 rfl ?_
  refine OWp.nil ?_
  refine Wp.cond rfl (fun h4 => ?_) (fun h4 => ?_)
  · have h4 := of_decide_eq_true h4
    have hlt : i < x.id.length := by omega
    refine Wp.skip ?_
    refine Wp.seq ?_
    refine Wp.block ?_
    refine Wp.region ?_
    refine OWp.evs 4 rfl ?_
    first | refine OWp.load (List.Mem.head _) rfl rfl rfl rfl rfl ?_ | refine OWp.load (List.Mem.tail _ (List.Mem.head _)) rfl rfl rfl rfl rfl ?_ | refine OWp.load (List.Mem.tail _ (List.Mem.tail _ (List.Mem.head _))) rfl rfl rfl rfl rfl ?_ | refine OWp.load (List.Mem.tail _ (List.Mem.tail _ (List.Mem.tail _ (List.Mem.head _)))) rfl rfl rfl rfl rfl ?_ | refine OWp.load (List.Mem.tail _ (List.Mem.tail _ (List.Mem.tail _ (List.Mem.tail _ (List.Mem.head _))))) rfl rfl rfl rfl rfl ?_ | refine OWp.load (List.Mem.tail _ (List.Mem.tail _ (List.Mem.tail _ (List.Mem.tail _ (List.Mem.tail _ (List.Mem.head _)))))) rfl rfl rfl rfl rfl ?_
    refine OWp.evs 1 rfl ?_
    refine OWp.g rfl rfl (Gives.indexStr (b := x.id[i]) rfl rfl rfl rfl (by omega) (by simp only [Int.toNat_natCast]; exact List.getElem?_eq_getElem hlt)) ?_
    refine OWp.g rfl rfl (Gives.indexAddrSlice (4 + i) rfl rfl rfl rfl rfl (by rw [i64_id (by omega) (by omega)]; omega) (by omega)) ?_
    refine OWp.step rfl (Step.storeAs 0 (byteCells (u8 x.kind :: u8 (x.node + x.user) :: u8 (x.delay / 256) :: u8 x.delay :: (x.id.take (i + 1) ++ List.replicate (20 - (i + 1)) 0))) rfl rfl rfl rfl rfl (by assumption) rfl (Unfz.zero _) rfl (by rw [byteCells_length]; simp only [List.length_cons, List.length_append, List.length_take, List.length_replicate]; show 0 + (4 + i) * 1 + 1 ≤ _; omega) (by rw [← cells_put (i := i) (y := x.id[i]) (by omega) (List.getElem?_eq_getElem hlt)]; show wr _ (0 + (4 + i) * 1) _ = _; rw [Nat.mul_one, Nat.zero_add]; rfl) rfl ?_)
    refine OWp.nil ?_
    refine Wp.region ?_
    refine OWp.evs 3 rfl ?_
    refine OWp.nil ?_
    refine ⟨i + 1, by omega, by omega, ?_, .refl _⟩
    exact .cons' rfl (int_eq (by rw [i64_id] <;> omega)) (.cons rfl (.cons rfl (.nil _)))
  have h4 := of_decide_eq_false h4
  obtain rfl : i = x.id.length := by omega
  rw [List.take_of_length_le (Nat.le_refl _)]
  refine Wp.exit ?_
  refine Wp.seq (Wp.region ?_)
  refine OWp.evs 1 rfl ?_
  refine OWp.gives rfl rfl (Gives.bytesToStr (F := (L, cel (byteCells (hopB x)) 5) :: (L1, cel x.cells 32) :: S) (l := hopB x) (k := 24) rfl rfl rfl rfl rfl (by have := Reads.row (S := (L, cel (byteCells (hopB x)) 5) :: (L1, cel x.cells 32) :: S) (sz := 1) (k := 24) (cap := 24) (.head _) (by rw [byteCells_length, hopB_len hp]; decide); rw [List.take_of_length_le (by rw [byteCells_length, hopB_len hp]; decide)] at this; exact this)) (fun _ h => h) ?_
  refine OWp.evs 1 rfl ?_
  refine OWp.nil ?_
  refine Wp.drop (S' := S) subl ?_
  refine Wp.ret ⟨trivial, _, ⟨_, _, rfl, rfl, rfl⟩, ?_⟩
  exact h
end
end Go.Proofs.C

namespace Go.Proofs.C
open Go.Lg
set_option maxRecDepth 100000

/-- Commands that go on, and a last one that doesn't. -/
def shape : List Hop → Prop
  | [] => False
  | [x] => x.kind ≠ 1
  | x :: y :: r => x.kind = 1 ∧ shape (y :: r)
instance shapeDec : (l : List Hop) → Decidable (shape l)
  | [] => by unfold shape; infer_instance
  | [x] => by unfold shape; infer_instance
  | x :: y :: r => by have := shapeDec (y :: r); unfold shape; infer_instance
theorem shape_iff : ∀ (l : List Hop), shape l ↔ 0 < l.length ∧ ∀ i (h : i < l.length), (l[i].kind = 1 ↔ i < l.length - 1)
  | [] => by simp [shape]
  | [x] => by simp [shape]
  | x :: y :: r => by
    have ih := shape_iff (y :: r)
    simp only [shape]
    constructor
    · rintro ⟨hx, hs⟩
      refine ⟨by simp, fun i h => ?_⟩
      cases i with
      | zero => simp [hx]
      | succ i =>
        have := (ih.1 hs).2 i (by simpa using h)
        simp only [List.getElem_cons_succ, List.length_cons] at this ⊢
        rw [this]; omega
    · rintro ⟨_, hs⟩
      refine ⟨by have := hs 0 (by simp); simpa using this, ih.2 ⟨by simp, fun i h => ?_⟩⟩
      have := hs (i + 1) (by simpa using h)
      simp only [List.getElem_cons_succ, List.length_cons] at this ⊢
      rw [this]; omega

def pathE (l : List Hop) : Int := if ∀ x ∈ l, hopP x then (if shape l ∧ l.length ≤ 5 then 0 else 4) else 70
theorem pathE_bad {l : List Hop} {x : Hop} (h : x ∈ l) (hx : ¬ hopP x) : pathE l = 70 := if_neg fun e => hx (e x h)
theorem pathE_good {l : List Hop} (h : ∀ x ∈ l, hopP x) : pathE l = if shape l ∧ l.length ≤ 5 then 0 else 4 := if_pos h

theorem hop_flat (l : List Hop) : ∀ x ∈ l, (Hop.cells x).length = 5 := fun _ _ => rfl

section
variable {B : Nat} {S R : Ents} {Q : Value → Ents → Prop}

theorem path1C {x : Hop} (h : Q (.bool (decide (¬ hopP x))) S) : CallWp Tryz.prog B 62 #[.agg x.cells.toArray] Q S := by
  refine CallWp.enter (args := [_]) Tryz.func62 rfl Tryz.ntmps62 rfl ?_
  refine Wp.seq (Wp.region ?_)
  refine OWp.step rfl (Step.box rfl rfl rfl ?_); intro L1 hBL1 hLL1
  refine OWp.evs 1 rfl ?_
  refine OWp.nil ?_
  refine Wp.seq (Wp.region ?_)
  first | refine OWp.load (List.Mem.head _) rfl rfl rfl rfl rfl ?_ | refine OWp.load (List.Mem.tail _ (List.Mem.head _)) rfl rfl rfl rfl rfl ?_ | refine OWp.load (List.Mem.tail _ (List.Mem.tail _ (List.Mem.head _))) rfl rfl rfl rfl rfl ?_ | refine OWp.load (List.Mem.tail _ (List.Mem.tail _ (List.Mem.tail _ (List.Mem.head _)))) rfl rfl rfl rfl rfl ?_ | refine OWp.load (List.Mem.tail _ (List.Mem.tail _ (List.Mem.tail _ (List.Mem.tail _ (List.Mem.head _))))) rfl rfl rfl rfl rfl ?_ | refine OWp.load (List.Mem.tail _ (List.Mem.tail _ (List.Mem.tail _ (List.Mem.tail _ (List.Mem.tail _ (List.Mem.head _)))))) rfl rfl rfl rfl rfl ?_
  refine OWp.step rfl (Step.call rfl rfl rfl rfl rfl rfl ((checkC (x := x) ?_)))
  by_cases hp : hopP x
  · skip
    rw [hopE_yes hp]
    rw [decide_eq_false (by simpa using hp)] at h
    refine OWp.evs 2 rfl ?_
    refine OWp.nil ?_
    refine Wp.drop (S' := S) subl ?_
    refine Wp.ret ⟨trivial, _, ⟨_, _, rfl, rfl, rfl⟩, ?_⟩
    exact h
  rw [hopE_no hp]
  rw [decide_eq_true hp] at h
  refine OWp.evs 2 rfl ?_
  refine OWp.nil ?_
  refine Wp.drop (S' := S) subl ?_
  refine Wp.ret ⟨trivial, _, ⟨_, _, rfl, rfl, rfl⟩, ?_⟩
  exact h
theorem path2C {x : Hop} (h : Q (.bool (decide (x.kind ≠ 1))) S) : CallWp Tryz.prog B 65 #[.agg x.cells.toArray] Q S := by
  refine CallWp.enter (args := [_]) Tryz.func65 rfl Tryz.ntmps65 rfl ?_
  refine Wp.seq (Wp.region ?_)
  refine OWp.step rfl (Step.box rfl rfl rfl ?_); intro L1 hBL1 hLL1
  refine OWp.evs 1 rfl ?_
  refine OWp.nil ?_
  refine Wp.seq (Wp.region ?_)
  refine OWp.evs 1 rfl ?_
  first | refine OWp.load (List.Mem.head _) rfl rfl rfl rfl rfl ?_ | refine OWp.load (List.Mem.tail _ (List.Mem.head _)) rfl rfl rfl rfl rfl ?_ | refine OWp.load (List.Mem.tail _ (List.Mem.tail _ (List.Mem.head _))) rfl rfl rfl rfl rfl ?_ | refine OWp.load (List.Mem.tail _ (List.Mem.tail _ (List.Mem.tail _ (List.Mem.head _)))) rfl rfl rfl rfl rfl ?_ | refine OWp.load (List.Mem.tail _ (List.Mem.tail _ (List.Mem.tail _ (List.Mem.tail _ (List.Mem.head _))))) rfl rfl rfl rfl rfl ?_ | refine OWp.load (List.Mem.tail _ (List.Mem.tail _ (List.Mem.tail _ (List.Mem.tail _ (List.Mem.tail _ (List.Mem.head _)))))) rfl rfl rfl rfl rfl ?_
  refine OWp.evs 2 rfl ?_
  refine OWp.nil ?_
  refine Wp.drop (S' := S) subl ?_
  refine Wp.ret ⟨trivial, _, ⟨_, _, rfl, rfl, rfl⟩, ?_⟩
  rw [decide_not] at h
  exact h
theorem hopIndex {v : Value} {n : Nat} {l : List Hop} {g : FuncId} {f : Hop → Bool} (hc : callable Tryz.prog g = true) (hl : Reads S 5 v n (l.flatMap Hop.cells)) (hn : l.length = n) (hm : n ≤ lim)
    (hf : ∀ x ∈ l, ∀ Q' : Value → Ents → Prop, Q' (.bool (f x)) S → CallWp Tryz.prog B g #[.agg x.cells.toArray] Q' S)
    (h0 : (∀ x ∈ l, f x = false) → Q (.int .i64 (-1)) S)
    (h1 : ∀ j (hj : j < l.length), (∀ i (hi : i < j), f l[i] = false) → f l[j] = true → Q (.int .i64 (j : Int)) S) :
    CallWp Tryz.prog B 64 #[v, .func (.func g) #[] #[]] Q S := by
  obtain ⟨aa, ac, rfl⟩ := hl.form
  subst hn
  unfold lim at hm
  refine CallWp.enter (args := [_, _]) Tryz.func64 rfl Tryz.ntmps64 rfl ?_
  refine Wp.seq (Wp.region ?_)
  refine OWp.evs 1 rfl ?_
  refine OWp.nil ?_
  refine Wp.seq ?_
  refine Wp.seq (Wp.region ?_)
  refine OWp.evs 3 rfl ?_
  refine OWp.nil ?_
  refine Wp.block ?_
  refine Wp.loopS (α := Nat) (fun i => l.length - i) (fun i => [(8, .int .i64 (i : Int)), (7, .int .i64 (l.length : Int)), (0, .slice aa l.length ac), (1, .func (.func g) #[] #[])]) (fun _ => S) (fun i => i ≤ l.length ∧ ∀ k (hk : k < l.length), k < i → f l[k] = false) 0 ?_ (.refl _) ⟨Nat.zero_le _, fun _ _ h => by omega⟩ ?_
  · exact .cons rfl (.cons rfl (.cons rfl (.cons rfl (.nil _))))
  rintro i ⟨hi, he⟩
  refine Wp.seq (Wp.region ?_)
  refine OWp.evs 1 rfl ?_
  refine OWp.nil ?_
  refine Wp.seq ?_
  refine Wp.cond rfl (fun h2 => ?_) (fun h2 => ?_)
  · have h2 := of_decide_eq_true h2
    have hlt : i < l.length := by omega
    obtain ⟨b, o, cap', l', e, fz, hv, hm', hat⟩ := hl.elem (sz := 5) (hop_flat l) (by omega)
    cases hv
    refine Wp.skip ?_
    refine Wp.seq ?_
    refine Wp.block ?_
    refine Wp.seq (Wp.region ?_)
    refine OWp.evs 2 rfl ?_
    refine OWp.nil ?_
    refine Wp.seq (Wp.region ?_)
    refine OWp.evs 3 rfl ?_
    refine OWp.g rfl rfl (Gives.indexAddrSlice (i) rfl rfl rfl rfl rfl rfl (by omega)) ?_
    refine OWp.load (hm') rfl rfl rfl rfl (partAt_agg (hat i hlt) rfl rfl rfl) ?_
    refine OWp.step rfl (Step.call rfl rfl rfl rfl rfl hc (hf l[i] (List.getElem_mem hlt) _ ?_))
    generalize hb : f l[i] = b
    cases b
    · skip
      refine OWp.nil ?_
      refine Wp.cond rfl (fun c => nomatch c) (fun _ => ?_)
      refine Wp.skip ?_
      refine Wp.region ?_
      refine OWp.evs 2 rfl ?_
      refine OWp.nil ?_
      refine ⟨i + 1, by omega, ⟨by omega, fun k hk hki => ?_⟩, ?_, .refl _⟩
      · by_cases e : k = i
        · subst e; exact hb
        · exact he k hk (by omega)
      · exact .cons' rfl (int_eq (by rw [i64_id] <;> omega)) (.cons rfl (.cons rfl (.cons rfl (.nil _))))
    refine OWp.nil ?_
    refine Wp.cond rfl (fun _ => ?_) (fun c => nomatch c)
    refine Wp.seq (Wp.region ?_)
    refine OWp.evs 2 rfl ?_
    refine OWp.nil ?_
    refine Wp.ret ⟨trivial, _, ⟨_, _, rfl, rfl, rfl⟩, ?_⟩
    exact h1 i hlt (fun k hk => he k (by omega) hk) hb
  have h2 := of_decide_eq_false h2
  refine Wp.exit ?_
  refine Wp.seq (Wp.region ?_)
  refine OWp.evs 1 rfl ?_
  refine OWp.nil ?_
  refine Wp.ret ⟨trivial, _, ⟨_, _, rfl, rfl, rfl⟩, ?_⟩
  refine h0 fun x hx => ?_
  obtain ⟨k, hk, rfl⟩ := List.mem_iff_getElem.1 hx
  exact he k hk (by omega)
theorem hopContains {v : Value} {n : Nat} {l : List Hop} {g : FuncId} {f : Hop → Bool} (hc : callable Tryz.prog g = true) (hl : Reads S 5 v n (l.flatMap Hop.cells)) (hn : l.length = n) (hm : n ≤ lim)
    (hf : ∀ x ∈ l, ∀ (Q' : Value → Ents → Prop), Q' (.bool (f x)) S → CallWp Tryz.prog B g #[.agg x.cells.toArray] Q' S) (h : Q (.bool (l.any f)) S) :
    CallWp Tryz.prog B 61 #[v, .func (.func g) #[] #[]] Q S := by
  refine CallWp.enter (args := [_, _]) Tryz.func61 rfl Tryz.ntmps61 rfl ?_
  refine Wp.seq (Wp.region ?_)
  refine OWp.evs 1 rfl ?_
  refine OWp.nil ?_
  refine Wp.seq (Wp.region ?_)
  refine OWp.evs 2 rfl ?_
  refine OWp.step rfl (Step.call rfl rfl rfl rfl rfl rfl ((hopIndex hc hl hn hm hf ?_ ?_)))
  intro h0
  · skip
    refine OWp.evs 2 rfl ?_
    refine OWp.nil ?_
    refine Wp.ret ⟨trivial, _, ⟨_, _, rfl, rfl, rfl⟩, ?_⟩
    rw [show l.any f = false from List.any_eq_false.2 fun x hx => by simp [h0 x hx]] at h
    exact h
  intro j hj _ hj1
  refine OWp.evs 2 rfl ?_
  refine OWp.nil ?_
  refine Wp.ret ⟨trivial, _, ⟨_, _, rfl, rfl, rfl⟩, ?_⟩
  rw [show l.any f = true from List.any_eq_true.2 ⟨l[j], List.getElem_mem hj, hj1⟩] at h
  rw [decide_eq_true (by omega)]
  exact h
theorem pathC {v : Value} {n : Nat} {l : List Hop} (hl : Reads S 5 v n (l.flatMap Hop.cells)) (hn : l.length = n) (hm : n ≤ lim) (h : Q (.int .i64 (pathE l)) S) : CallWp Tryz.prog B 23 #[v] Q S := by
  obtain ⟨aa, ac, rfl⟩ := hl.form
  have hm' := hm
  unfold lim at hm'
  refine CallWp.enter (args := [_]) Tryz.func23 rfl Tryz.ntmps23 rfl ?_
  refine Wp.seq (Wp.region ?_)
  refine OWp.evs 1 rfl ?_
  refine OWp.nil ?_
  refine Wp.seq ?_
  refine Wp.seq (Wp.region ?_)
  refine OWp.evs 1 rfl ?_
  refine OWp.step rfl (Step.call rfl rfl rfl rfl rfl rfl ((hopContains (f := fun x => decide (¬ hopP x)) rfl hl hn hm (fun x _ Q' hq => path1C hq) ?_)))
  generalize hb : l.any (fun x => decide (¬ hopP x)) = b
  cases b
  · skip
    refine OWp.nil ?_
    refine Wp.cond rfl (fun c => nomatch c) (fun _ => ?_)
    have hg : ∀ x ∈ l, hopP x := fun x hx => by
      have := List.any_eq_false.1 hb x hx
      simpa using this
    rw [pathE_good hg] at h
    refine Wp.skip ?_
    refine Wp.seq (Wp.region ?_)
    refine OWp.evs 1 rfl ?_
    refine OWp.step rfl (Step.call rfl rfl rfl rfl rfl rfl ((hopIndex (f := fun x => decide (x.kind ≠ 1)) rfl hl hn hm (fun x _ Q' hq => path2C hq) ?_ ?_)))
    intro h0
    · skip
      refine OWp.evs 1 rfl ?_
      refine OWp.nil ?_
      refine Wp.seq ?_
      refine Wp.seq (Wp.region ?_)
      refine OWp.evs 3 rfl ?_
      refine OWp.evs 11 rfl ?_
      refine OWp.nil ?_
      refine Wp.cond rfl (fun _ => ?_) (fun c => nomatch c)
      refine Wp.seq (Wp.region ?_)
      refine OWp.evs 1 rfl ?_
      refine OWp.nil ?_
      refine Wp.ret ⟨trivial, _, ⟨_, _, rfl, rfl, rfl⟩, ?_⟩
      have hs : ¬ shape l := fun hs => by
        obtain ⟨hp, hs⟩ := (shape_iff l).1 hs
        have := hs (l.length - 1) (by omega)
        have h2 := h0 l[l.length - 1] (List.getElem_mem _)
        have h2 : l[l.length - 1].kind = 1 := by simpa using h2
        omega
      rw [if_neg (fun e => hs e.1)] at h
      exact h
    intro j hj hj0 hj1
    refine OWp.evs 1 rfl ?_
    refine OWp.nil ?_
    refine Wp.seq ?_
    refine Wp.seq (Wp.region ?_)
    refine OWp.evs 3 rfl ?_
    refine OWp.part 10 rfl (fun cc1 => absurd (of_decide_eq_true cc1) (by omega)) (fun cc1 => ?_)
    have cc1 := of_decide_eq_false cc1
    refine OWp.evs 7 rfl ?_
    refine OWp.part 17 rfl (fun e1 => ?_) (fun e1 => ?_)
    · have e1 := ndT e1
      refine OWp.evs 4 rfl ?_
      refine OWp.nil ?_
      refine Wp.cond rfl (fun _ => ?_) (fun c => nomatch c)
      refine Wp.seq (Wp.region ?_)
      refine OWp.evs 1 rfl ?_
      refine OWp.nil ?_
      refine Wp.ret ⟨trivial, _, ⟨_, _, rfl, rfl, rfl⟩, ?_⟩
      rw [i64_id (by omega) (by omega)] at e1
      rw [if_neg (fun e => by
        obtain ⟨hp, hs⟩ := (shape_iff l).1 e.1
        have h2 : l[j].kind ≠ 1 := by simpa using hj1
        have := hs j hj
        omega)] at h
      exact h
    have e1 := ndF e1
    rw [i64_id (by omega) (by omega)] at e1
    have hs : shape l := (shape_iff l).2 ⟨by omega, fun i hi => by
      by_cases e : i = j
      · subst e
        have h2 : l[i].kind ≠ 1 := by simpa using hj1
        constructor
        · intro h; exact absurd h h2
        · intro h; omega
      · have h2 := hj0 i (by omega)
        have h2 : l[i].kind = 1 := by simpa using h2
        constructor
        · intro _; omega
        · intro _; exact h2⟩
    refine OWp.evs 4 rfl ?_
    refine OWp.nil ?_
    refine Wp.cond rfl (fun e2 => ?_) (fun e2 => ?_)
    · have e2 := of_decide_eq_true e2
      refine Wp.seq (Wp.region ?_)
      refine OWp.evs 1 rfl ?_
      refine OWp.nil ?_
      refine Wp.ret ⟨trivial, _, ⟨_, _, rfl, rfl, rfl⟩, ?_⟩
      rw [if_neg (fun e => by omega)] at h
      exact h
    have e2 := of_decide_eq_false e2
    refine Wp.skip ?_
    refine Wp.seq (Wp.region ?_)
    refine OWp.evs 1 rfl ?_
    refine OWp.nil ?_
    refine Wp.ret ⟨trivial, _, ⟨_, _, rfl, rfl, rfl⟩, ?_⟩
    rw [if_pos ⟨hs, by omega⟩] at h
    exact h
  refine OWp.nil ?_
  refine Wp.cond rfl (fun _ => ?_) (fun c => nomatch c)
  refine Wp.seq (Wp.region ?_)
  refine OWp.evs 1 rfl ?_
  refine OWp.nil ?_
  refine Wp.ret ⟨trivial, _, ⟨_, _, rfl, rfl, rfl⟩, ?_⟩
  obtain ⟨x, hx, hx2⟩ := List.any_eq_true.1 hb
  rw [pathE_bad hx (of_decide_eq_true hx2)] at h
  exact h
theorem rpathC {v : Value} {n : Nat} {l : List Hop} (hl : Reads S 5 v n (l.flatMap Hop.cells)) (hn : l.length = n) (hm : n ≤ lim) (h : Q (.int .i64 (pathE l)) S) : CallWp Tryz.prog B 31 #[v] Q S := by
  obtain ⟨aa, ac, rfl⟩ := hl.form
  subst hn
  unfold lim at hm
  refine CallWp.enter (args := [_]) Tryz.func31 rfl Tryz.ntmps31 rfl ?_
  refine Wp.seq (Wp.region ?_)
  refine OWp.evs 1 rfl ?_
  refine OWp.nil ?_
  refine Wp.seq ?_
  refine Wp.seq (Wp.region ?_)
  refine OWp.evs 1 rfl ?_
  refine OWp.nil ?_
  refine Wp.block ?_
  refine Wp.loopS (α := Nat) (fun i => l.length - i) (fun i => [(3, .int .i64 (i : Int)), (0, .slice aa l.length ac)]) (fun _ => S) (fun i => i ≤ l.length ∧ ∀ k (hk : k < l.length), k < i → hopP l[k]) 0 ?_ (.refl _) ⟨Nat.zero_le _, fun _ _ h => by omega⟩ ?_
  · exact .cons rfl (.cons rfl (.nil _))
  rintro i ⟨hi, he⟩
  refine Wp.seq ?_
  refine Wp.seq (Wp.region ?_)
  refine OWp.evs 4 rfl ?_
  refine OWp.nil ?_
  refine Wp.cond rfl (fun h2 => ?_) (fun h2 => ?_)
  · have h2 := of_decide_eq_true h2
    have hlt : i < l.length := by omega
    obtain ⟨b, o, cap', l', e, fz, hv, hm', hat⟩ := hl.elem (sz := 5) (hop_flat l) (by omega)
    cases hv
    refine Wp.skip ?_
    refine Wp.seq ?_
    refine Wp.block ?_
    refine Wp.seq (Wp.region ?_)
    refine OWp.evs 2 rfl ?_
    refine OWp.g rfl rfl (Gives.indexAddrSlice (i) rfl rfl rfl rfl rfl rfl (by omega)) ?_
    refine OWp.load (hm') rfl rfl rfl rfl (partAt_agg (hat i hlt) rfl rfl rfl) ?_
    refine OWp.step rfl (Step.call rfl rfl rfl rfl rfl rfl ((rcheckC (x := l[i]) ?_)))
    by_cases hp : hopP l[i]
    · skip
      rw [hopE_yes hp]
      refine OWp.evs 1 rfl ?_
      refine OWp.nil ?_
      refine Wp.seq (Wp.region ?_)
      refine OWp.evs 2 rfl ?_
      refine OWp.nil ?_
      refine Wp.cond rfl (fun c => nomatch c) (fun _ => ?_)
      refine Wp.skip ?_
      refine Wp.region ?_
      refine OWp.evs 3 rfl ?_
      refine OWp.nil ?_
      refine ⟨i + 1, by omega, ⟨by omega, fun k hk hki => ?_⟩, ?_, .refl _⟩
      · by_cases e : k = i
        · subst e; exact hp
        · exact he k hk (by omega)
      · exact .cons' rfl (int_eq (by rw [i64_id] <;> omega)) (.cons rfl (.nil _))
    rw [hopE_no hp]
    refine OWp.evs 1 rfl ?_
    refine OWp.nil ?_
    refine Wp.seq (Wp.region ?_)
    refine OWp.evs 2 rfl ?_
    refine OWp.nil ?_
    refine Wp.cond rfl (fun _ => ?_) (fun c => nomatch c)
    refine Wp.seq (Wp.region ?_)
    refine OWp.evs 2 rfl ?_
    refine OWp.nil ?_
    refine Wp.ret ⟨trivial, _, ⟨_, _, rfl, rfl, rfl⟩, ?_⟩
    rw [pathE_bad (List.getElem_mem hlt) hp] at h
    exact h
  have h2 := of_decide_eq_false h2
  have hg : ∀ x ∈ l, hopP x := fun x hx => by
    obtain ⟨k, hk, rfl⟩ := List.mem_iff_getElem.1 hx
    exact he k hk (by omega)
  rw [pathE_good hg] at h
  refine Wp.exit ?_
  refine Wp.seq ?_
  refine Wp.seq (Wp.region ?_)
  refine OWp.evs 4 rfl ?_
  refine OWp.part 23 rfl (fun e1 => ?_) (fun e1 => ?_)
  · have e1 := of_decide_eq_true e1
    refine OWp.evs 4 rfl ?_
    refine OWp.nil ?_
    refine Wp.cond rfl (fun _ => ?_) (fun c => nomatch c)
    refine Wp.seq (Wp.region ?_)
    refine OWp.evs 1 rfl ?_
    refine OWp.nil ?_
    refine Wp.ret ⟨trivial, _, ⟨_, _, rfl, rfl, rfl⟩, ?_⟩
    rw [if_neg (fun e => by have := ((shape_iff l).1 e.1).1; omega)] at h
    exact h
  have e1 := of_decide_eq_false e1
  refine OWp.evs 4 rfl ?_
  refine OWp.nil ?_
  refine Wp.cond rfl (fun e2 => ?_) (fun e2 => ?_)
  · have e2 := of_decide_eq_true e2
    refine Wp.seq (Wp.region ?_)
    refine OWp.evs 1 rfl ?_
    refine OWp.nil ?_
    refine Wp.ret ⟨trivial, _, ⟨_, _, rfl, rfl, rfl⟩, ?_⟩
    rw [if_neg (fun e => by omega)] at h
    exact h
  have e2 := of_decide_eq_false e2
  refine Wp.skip ?_
  refine Wp.seq ?_
  refine Wp.seq (Wp.region ?_)
  refine OWp.evs 1 rfl ?_
  refine OWp.nil ?_
  refine Wp.block ?_
  refine Wp.loopS (α := Nat) (fun i => l.length - i) (fun i => [(5, .int .i64 (i : Int)), (0, .slice aa l.length ac)]) (fun _ => S) (fun i => i ≤ l.length ∧ ∀ k (hk : k < l.length), k < i → (l[k].kind = 1 ↔ k < l.length - 1)) 0 ?_ (.refl _) ⟨Nat.zero_le _, fun _ _ h => by omega⟩ ?_
  · exact .cons rfl (.cons rfl (.nil _))
  rintro j ⟨hj, hs⟩
  refine Wp.seq ?_
  refine Wp.seq (Wp.region ?_)
  refine OWp.evs 4 rfl ?_
  refine OWp.nil ?_
  refine Wp.cond rfl (fun h3 => ?_) (fun h3 => ?_)
  · have h3 := of_decide_eq_true h3
    have hlt : j < l.length := by omega
    obtain ⟨b, o, cap', l', e, fz, hv, hm', hat⟩ := hl.elem (sz := 5) (hop_flat l) (by omega)
    cases hv
    refine Wp.skip ?_
    refine Wp.seq ?_
    refine Wp.block ?_
    refine Wp.seq (Wp.region ?_)
    refine OWp.evs 2 rfl ?_
    refine OWp.g rfl rfl (Gives.indexAddrSlice (j) rfl rfl rfl rfl rfl rfl (by omega)) ?_
    refine OWp.evs 1 rfl ?_
    refine OWp.load (hm') rfl rfl rfl rfl ((partAt_in (m := 0) (hat j hlt) rfl (by decide) (by decide)).trans rfl) ?_
    have e3 : (decide (l[j].kind = 1) == decide ((j : Int) < IntKind.i64.wrap ((l.length : Int) - 1))) = decide (l[j].kind = 1 ↔ j < l.length - 1) := by
      rw [i64_id (by omega) (by omega), Bool.eq_iff_iff]
      by_cases q1 : l[j].kind = 1 <;> by_cases q2 : j < l.length - 1 <;> simp [q1, q2] <;> omega
    refine OWp.evs 7 rfl ?_
    refine OWp.nil ?_
    refine Wp.cond rfl (fun h4 => ?_) (fun h4 => ?_)
    · skip
      refine Wp.seq (Wp.region ?_)
      refine OWp.evs 1 rfl ?_
      refine OWp.nil ?_
      refine Wp.ret ⟨trivial, _, ⟨_, _, rfl, rfl, rfl⟩, ?_⟩
      have h4 : (decide (l[j].kind = 1) == decide ((j : Int) < IntKind.i64.wrap ((l.length : Int) - 1))) = false := by simpa using h4
      rw [e3] at h4
      rw [if_neg (fun e => of_decide_eq_false h4 (((shape_iff l).1 e.1).2 j hlt))] at h
      exact h
    have h4 : (decide (l[j].kind = 1) == decide ((j : Int) < IntKind.i64.wrap ((l.length : Int) - 1))) = true := by simpa using h4
    rw [e3] at h4
    refine Wp.skip ?_
    refine Wp.region ?_
    refine OWp.evs 3 rfl ?_
    refine OWp.nil ?_
    refine ⟨j + 1, by omega, ⟨by omega, fun k hk hki => ?_⟩, ?_, .refl _⟩
    · by_cases e : k = j
      · subst e; exact of_decide_eq_true h4
      · exact hs k hk (by omega)
    · exact .cons' rfl (int_eq (by rw [i64_id] <;> omega)) (.cons rfl (.nil _))
  have h3 := of_decide_eq_false h3
  refine Wp.exit ?_
  refine Wp.seq (Wp.region ?_)
  refine OWp.evs 1 rfl ?_
  refine OWp.nil ?_
  refine Wp.ret ⟨trivial, _, ⟨_, _, rfl, rfl, rfl⟩, ?_⟩
  rw [if_pos ⟨(shape_iff l).2 ⟨by omega, fun k hk => hs k hk (by omega)⟩, by omega⟩] at h
  exact h
end
end Go.Proofs.C

namespace Go.Proofs.C
open Go.Lg
set_option maxRecDepth 100000

def Hop.zero : Hop := ⟨0, 0, 0, 0, []⟩
/-- Bytes read as a command: with delays of all kinds (all), or of those alone that have one. -/
def parse (all : Bool) : List UInt8 → Hop
  | a :: b :: c :: d :: r =>
    if a.toNat = 1 then ⟨1, b.toNat, 0, ((c.toNat * 256 + d.toNat : Nat) : Int), []⟩
    else if a.toNat = 2 then ⟨2, 0, b.toNat, ((c.toNat * 256 + d.toNat : Nat) : Int), r.take 16⟩
    else if a.toNat = 3 then ⟨3, 0, 0, if all then ((c.toNat * 256 + d.toNat : Nat) : Int) else 0, r.take 16⟩
    else ⟨a.toNat, 0, 0, if all then ((c.toNat * 256 + d.toNat : Nat) : Int) else 0, []⟩
  | _ => Hop.zero

theorem u8_toNat {z : Int} (h0 : 0 ≤ z) (h1 : z < 256) : (u8 z).toNat = z.toNat := by
  have := u8_nat h0 h1; omega
theorem u8_delay {z : Int} (h0 : 0 ≤ z) (h1 : z ≤ 4096) : (((u8 (z / 256)).toNat * 256 + (u8 z).toNat : Nat) : Int) = z := by
  have e1 := u8_nat (z := z / 256) (by omega) (by omega)
  have e2 := u8_nat (z := z % 256) (by omega) (by omega)
  rw [u8_mod] at e2
  omega

/-- What is written is read as it was. -/
theorem parse_hopB {x : Hop} (hp : hopP x) (all : Bool) : parse all (hopB x) = x := by
  unfold hopP at hp
  obtain ⟨k, n, u, dl, id⟩ := x
  simp only at hp
  unfold hopB parse
  simp only
  rcases hp with ⟨rfl, h1, h2, h3, h4, rfl, h5⟩ | ⟨rfl, h1, h2, h3, h4, rfl, h5⟩ | ⟨rfl, h1, rfl, rfl, rfl⟩ | ⟨rfl, rfl, rfl, rfl, h5⟩
  · rw [u8_toNat (z := 1) (by omega) (by omega), if_pos (by decide), u8_delay h3 h4]
    refine Hop.ext rfl ?_ rfl rfl (nil_len.2 h5).symm
    show ((u8 (n + 0)).toNat : Int) = n
    rw [Int.add_zero, u8_nat h1 (by omega)]
  · rw [u8_toNat (z := 2) (by omega) (by omega), if_neg (by decide), if_pos (by decide), u8_delay h3 h4]
    refine Hop.ext rfl rfl ?_ rfl ?_
    · show ((u8 (0 + u)).toNat : Int) = u
      rw [Int.zero_add, u8_nat h1 (by omega)]
    · show (id ++ _).take 16 = id
      rw [List.take_append_of_le_length (by omega), List.take_of_length_le (by omega)]
  · rw [u8_toNat (z := 3) (by omega) (by omega), if_neg (by decide), if_neg (by decide), if_pos (by decide)]
    refine Hop.ext rfl rfl rfl ?_ ?_
    · cases all
      · rfl
      · exact u8_delay (z := 0) (by omega) (by omega)
    · show (id ++ _).take 16 = id
      rw [List.take_append_of_le_length (by omega), List.take_of_length_le (by omega)]
  · rw [u8_toNat (z := 4) (by omega) (by omega), if_neg (by decide), if_neg (by decide), if_neg (by decide)]
    refine Hop.ext rfl rfl rfl ?_ (nil_len.2 h5).symm
    cases all
    · rfl
    · exact u8_delay (z := 0) (by omega) (by omega)

theorem len24 {l : List UInt8} (h : l.length = 24) : ∃ a b c d r, l = a :: b :: c :: d :: r ∧ r.length = 20 := by
  match l, h with
  | a :: b :: c :: d :: r, h => exact ⟨a, b, c, d, r, rfl, by simpa using h⟩

theorem wrap_u8i (a : UInt8) : IntKind.i64.wrap (a.toNat : Int) = (a.toNat : Int) := by have := a.toNat_lt; rw [i64_id] <;> omega
theorem or2 (c d : UInt8) : bits .or .i64 (IntKind.i64.wrap (IntKind.i64.wrap (c.toNat : Int) * 2 ^ (min 8 IntKind.i64.bits))) (IntKind.i64.wrap (d.toNat : Int)) = ((c.toNat * 256 + d.toNat : Nat) : Int) := by
  have := c.toNat_lt; have := d.toNat_lt
  have e3 : (2 : Int) ^ (min 8 IntKind.i64.bits) = 256 := by decide
  rw [e3, wrap_u8i, wrap_u8i, i64_id (by omega) (by omega)]
  rw [bits_join .i64 63 (by decide) wraps_i64 8 (c.toNat * 256 : Int) d.toNat (by omega) (by omega) (by omega) (by omega) (by omega) (by omega)]
  omega
section
variable {B : Nat} {S R : Ents} {Q : Value → Ents → Prop}

/-- What both read: the command whose bytes these are, or none. -/
def decQ (Q : Value → Ents → Prop) (S : Ents) (b : List UInt8) : Prop :=
  (∀ x, hopP x → hopB x = b → Q (.tuple #[.agg x.cells.toArray, .int .i64 0]) S) ∧ ((∀ x, hopP x → hopB x ≠ b) → Q (.tuple #[.agg Hop.zero.cells.toArray, .int .i64 70]) S)

theorem decodeC {b : List UInt8} (hb : b.length = 24) (h : decQ Q S b) : CallWp Tryz.prog B 46 #[.string (str b)] Q S := by
  obtain ⟨hyes, hno⟩ := h
  obtain ⟨b0, b1, b2, b3, r, rfl, hr⟩ := len24 hb
  have hp := fun x (hx : hopP x) (e : hopB x = b0 :: b1 :: b2 :: b3 :: r) => (by rw [← e]; exact parse_hopB hx true : parse true (b0 :: b1 :: b2 :: b3 :: r) = x)
  have hb0 := b0.toNat_lt
  refine CallWp.dropRet ?_
  refine CallWp.enter (args := [_]) Tryz.func46 rfl Tryz.ntmps46 rfl ?_
  refine Wp.seq (Wp.region ?_)
  refine OWp.step rfl (Step.alloc rfl rfl rfl ?_); intro L2 hBL2 hLL2
  refine OWp.evs 1 rfl ?_
  refine OWp.nil ?_
  refine Wp.seq ?_
  refine Wp.seq (Wp.region ?_)
  refine OWp.evs 3 rfl ?_
  refine OWp.nil ?_
  refine Wp.cond rfl (fun cc1 => absurd (ndT cc1) (by rw [hb]; decide)) (fun cc1 => ?_)
  have cc1 := ndF cc1
  refine Wp.skip ?_
  refine Wp.seq (Wp.regionDraw [0, 1, 2, 3, 4, 5, 6, 7, 8, 9, 10, 11, 12, 13] [12, 13] rfl (by decide +kernel) ?_)
  refine DWp.evs 1 rfl ?_
  refine DWp.g rfl rfl rfl rfl (Gives.indexStr (b := b0) rfl rfl rfl rfl (by decide) rfl) ?_
  refine DWp.evs 2 rfl ?_
  refine DWp.g rfl rfl rfl rfl (Gives.indexStr (b := b2) rfl rfl rfl rfl (by decide) rfl) ?_
  refine DWp.evs 3 rfl ?_
  refine DWp.g rfl rfl rfl rfl (Gives.indexStr (b := b3) rfl rfl rfl rfl (by decide) rfl) ?_
  refine DWp.evs 2 rfl ?_
  refine DWp.g rfl rfl rfl rfl (Gives.build rfl rfl) ?_
  refine DWp.stepGrow rfl rfl rfl (Step.alloc rfl rfl rfl ?_); intro L4 hBL4 hLL4; refine ⟨fun _ hy => .tail _ hy, ?_⟩
  refine DWp.stepAll rfl rfl rfl rfl (Step.storeAs 0 (Hop.cells ⟨b0.toNat, 0, 0, ((b2.toNat * 256 + b3.toNat : Nat) : Int), []⟩) rfl rfl rfl rfl rfl (by assumption) rfl (Unfz.zero _) rfl (Nat.le_of_ble_eq_true rfl) (by rw [or2, wrap_u8i]; rfl) rfl ?_)
  refine DWp.nil ?_
  refine Wp.seqS (α := Hop) (fun _ => [(0, .string (str (b0 :: b1 :: b2 :: b3 :: r))), (2, pt L2), (4, pt L4)]) (fun x => (L4, cel x.cells 32) :: (L2, cel Hop.zero.cells 32) :: S) (fun x => x = parse true (b0 :: b1 :: b2 :: b3 :: r)) ?_ ?_
  · skip
    refine Wp.seq (Wp.region ?_)
    refine OWp.evs 1 rfl ?_
    first | refine OWp.load (List.Mem.head _) rfl rfl rfl rfl rfl ?_ | refine OWp.load (List.Mem.tail _ (List.Mem.head _)) rfl rfl rfl rfl rfl ?_ | refine OWp.load (List.Mem.tail _ (List.Mem.tail _ (List.Mem.head _))) rfl rfl rfl rfl rfl ?_ | refine OWp.load (List.Mem.tail _ (List.Mem.tail _ (List.Mem.tail _ (List.Mem.head _)))) rfl rfl rfl rfl rfl ?_ | refine OWp.load (List.Mem.tail _ (List.Mem.tail _ (List.Mem.tail _ (List.Mem.tail _ (List.Mem.head _))))) rfl rfl rfl rfl rfl ?_ | refine OWp.load (List.Mem.tail _ (List.Mem.tail _ (List.Mem.tail _ (List.Mem.tail _ (List.Mem.tail _ (List.Mem.head _)))))) rfl rfl rfl rfl rfl ?_
    refine OWp.nil ?_
    refine Wp.block ?_
    refine Wp.seq (Wp.region ?_)
    refine OWp.evs 2 rfl ?_
    refine OWp.nil ?_
    refine Wp.cond rfl (fun k1 => ?_) (fun k1 => ?_)
    · have k1 := of_decide_eq_true k1
      have k1 : (b0.toNat : Int) = 1 := k1
      refine Wp.region ?_
      refine OWp.evs 1 rfl ?_
      refine OWp.g rfl rfl (Gives.indexStr (b := b1) rfl rfl rfl rfl (by decide) rfl) ?_
      refine OWp.evs 2 rfl ?_
      refine OWp.step rfl (Step.storeAs 0 (Hop.cells ⟨b0.toNat, b1.toNat, 0, ((b2.toNat * 256 + b3.toNat : Nat) : Int), []⟩) rfl rfl rfl rfl rfl (by assumption) rfl (Unfz.zero _) rfl (Nat.le_of_ble_eq_true rfl) (by rw [wrap_u8i]; rfl) rfl ?_)
      refine OWp.nil ?_
      refine ⟨⟨b0.toNat, b1.toNat, 0, ((b2.toNat * 256 + b3.toNat : Nat) : Int), []⟩, ?_, .cons rfl (.cons rfl (.cons rfl (.nil _))), .refl _⟩
      show _ = (if b0.toNat = 1 then _ else _); rw [if_pos (by omega), k1]
    have k1 := of_decide_eq_false k1
    have k1 : ¬ (b0.toNat : Int) = 1 := k1
    refine Wp.seq (Wp.region ?_)
    refine OWp.evs 2 rfl ?_
    refine OWp.nil ?_
    refine Wp.cond rfl (fun k2 => ?_) (fun k2 => ?_)
    · have k2 := of_decide_eq_true k2
      have k2 : (b0.toNat : Int) = 2 := k2
      refine Wp.regionDraw [0, 1, 2, 3, 4, 5, 6, 7, 8] [6, 8] rfl (by decide +kernel) ?_
      refine DWp.evs 1 rfl ?_
      refine DWp.g rfl rfl rfl rfl (Gives.indexStr (b := b1) rfl rfl rfl rfl (by decide) rfl) ?_
      refine DWp.evs 2 rfl ?_
      refine DWp.g rfl rfl rfl rfl (Gives.sliceStr (l := 4) (h' := 20) rfl rfl rfl ⟨_, _, rfl, rfl⟩ ⟨_, _, rfl, rfl⟩ (by decide) (by rw [hb]; decide)) ?_
      refine DWp.evs 1 rfl ?_
      refine DWp.stepAll rfl rfl rfl rfl (Step.storeAs 0 (Hop.cells ⟨b0.toNat, 0, b1.toNat, ((b2.toNat * 256 + b3.toNat : Nat) : Int), []⟩) rfl rfl rfl rfl rfl (by assumption) rfl (Unfz.zero _) rfl (Nat.le_of_ble_eq_true rfl) (by rw [wrap_u8i]; rfl) rfl ?_)
      refine DWp.evs 1 rfl ?_
      refine DWp.stepAll rfl rfl rfl rfl (Step.storeAs 0 (Hop.cells ⟨b0.toNat, 0, b1.toNat, ((b2.toNat * 256 + b3.toNat : Nat) : Int), r.take 16⟩) rfl rfl rfl rfl rfl (by assumption) rfl (Unfz.zero _) rfl (Nat.le_of_ble_eq_true rfl) rfl rfl ?_)
      refine DWp.nil ?_
      refine ⟨⟨b0.toNat, 0, b1.toNat, ((b2.toNat * 256 + b3.toNat : Nat) : Int), r.take 16⟩, ?_, .cons rfl (.cons rfl (.cons rfl (.nil _))), .refl _⟩
      show _ = (if b0.toNat = 1 then _ else _); rw [if_neg (by omega), if_pos (by omega), k2]
    have k2 := of_decide_eq_false k2
    have k2 : ¬ (b0.toNat : Int) = 2 := k2
    refine Wp.seq (Wp.region ?_)
    refine OWp.evs 2 rfl ?_
    refine OWp.nil ?_
    refine Wp.cond rfl (fun k3 => ?_) (fun k3 => ?_)
    · have k3 := of_decide_eq_true k3
      have k3 : (b0.toNat : Int) = 3 := k3
      refine Wp.region ?_
      refine OWp.evs 1 rfl ?_
      refine OWp.g rfl rfl (Gives.sliceStr (l := 4) (h' := 20) rfl rfl rfl ⟨_, _, rfl, rfl⟩ ⟨_, _, rfl, rfl⟩ (by decide) (by rw [hb]; decide)) ?_
      refine OWp.evs 1 rfl ?_
      refine OWp.step rfl (Step.storeAs 0 (Hop.cells ⟨b0.toNat, 0, 0, ((b2.toNat * 256 + b3.toNat : Nat) : Int), r.take 16⟩) rfl rfl rfl rfl rfl (by assumption) rfl (Unfz.zero _) rfl (Nat.le_of_ble_eq_true rfl) rfl rfl ?_)
      refine OWp.nil ?_
      refine ⟨⟨b0.toNat, 0, 0, ((b2.toNat * 256 + b3.toNat : Nat) : Int), r.take 16⟩, ?_, .cons rfl (.cons rfl (.cons rfl (.nil _))), .refl _⟩
      show _ = (if b0.toNat = 1 then _ else _); rw [if_neg (by omega), if_neg (by omega), if_pos (by omega), k3]; rfl
    have k3 := of_decide_eq_false k3
    have k3 : ¬ (b0.toNat : Int) = 3 := k3
    refine Wp.skip ?_
    refine ⟨⟨b0.toNat, 0, 0, ((b2.toNat * 256 + b3.toNat : Nat) : Int), []⟩, ?_, .cons rfl (.cons rfl (.cons rfl (.nil _))), .refl _⟩
    show _ = (if b0.toNat = 1 then _ else _); rw [if_neg (by omega), if_neg (by omega), if_neg (by omega)]; rfl
  rintro x hx
  refine Wp.seq ?_
  refine Wp.seq (Wp.region ?_)
  refine OWp.load (.head _) rfl rfl rfl rfl (partAt_agg (n := 5) (r := x.cells) rfl rfl rfl rfl) ?_
  by_cases hok : hopP x
  · skip
    refine OWp.step rfl (Step.call rfl rfl rfl rfl rfl rfl ((encode_yes hok ?_)))
    refine OWp.evs 5 rfl ?_
    refine OWp.nil ?_
    refine Wp.seq (Wp.region ?_)
    refine OWp.evs 3 rfl ?_
    refine OWp.evs 4 rfl ?_
    refine OWp.nil ?_
    refine Wp.cond rfl (fun e1 => ?_) (fun e1 => ?_)
    · have e1 := ndT e1
      refine Wp.seq (Wp.region ?_)
      refine OWp.g rfl rfl (Gives.build rfl rfl) ?_
      refine OWp.step rfl (Step.store 1 rfl rfl rfl rfl rfl (by assumption) rfl (Nat.le_of_ble_eq_true rfl) (Unfz.zero _) rfl rfl ?_)
      refine OWp.evs 1 rfl ?_
      refine OWp.nil ?_
      refine Wp.ret ⟨trivial, _, ⟨_, _, _, _, rfl, rfl, ⟨_, _, _, mems, (by first | assumption | rfl)⟩, ⟨_, _, rfl, rfl, rfl⟩⟩, ?_⟩
      refine ⟨S, subl, hno fun y hy e => e1 ?_⟩
      rw [hx, hp y hy e]; exact e
    have e1 := ndF e1
    refine Wp.skip ?_
    refine Wp.seq (Wp.region ?_)
    refine OWp.load (.head _) rfl rfl rfl rfl (partAt_agg (n := 5) (r := x.cells) rfl rfl rfl rfl) ?_
    refine OWp.step rfl (Step.store 1 rfl rfl rfl rfl rfl (by assumption) rfl (Nat.le_of_ble_eq_true rfl) (Unfz.zero _) rfl rfl ?_)
    refine OWp.evs 1 rfl ?_
    refine OWp.nil ?_
    refine Wp.ret ⟨trivial, _, ⟨_, _, _, _, rfl, rfl, ⟨_, _, _, mems, (by first | assumption | rfl)⟩, ⟨_, _, rfl, rfl, rfl⟩⟩, ?_⟩
    exact ⟨S, subl, hyes x hok e1⟩
  refine OWp.step rfl (Step.call rfl rfl rfl rfl rfl rfl ((encode_no hok ?_)))
  refine OWp.evs 5 rfl ?_
  refine OWp.nil ?_
  refine Wp.seq (Wp.region ?_)
  refine OWp.evs 3 rfl ?_
  refine OWp.evs 4 rfl ?_
  refine OWp.nil ?_
  refine Wp.cond rfl (fun _ => ?_) (fun c => nomatch c)
  refine Wp.seq (Wp.region ?_)
  refine OWp.g rfl rfl (Gives.build rfl rfl) ?_
  refine OWp.step rfl (Step.store 1 rfl rfl rfl rfl rfl (by assumption) rfl (Nat.le_of_ble_eq_true rfl) (Unfz.zero _) rfl rfl ?_)
  refine OWp.evs 1 rfl ?_
  refine OWp.nil ?_
  refine Wp.ret ⟨trivial, _, ⟨_, _, _, _, rfl, rfl, ⟨_, _, _, mems, (by first | assumption | rfl)⟩, ⟨_, _, rfl, rfl, rfl⟩⟩, ?_⟩
  refine ⟨S, subl, hno fun y hy e => hok ?_⟩
  rw [hx, hp y hy e]; exact hy
end
end Go.Proofs.C

namespace Go.Proofs.C
open Go.Lg
set_option maxRecDepth 100000

end Go.Proofs.C

namespace Go.Proofs.C
open Go.Lg
set_option maxRecDepth 100000

theorem rdHopL {S : Ents} {r : List Value} (h : Rd Tryz.prog S 32 r) : ∃ x : Hop, r = x.cells ∧ x.id.length ≤ lim := by
  obtain ⟨hl, hf⟩ := h.open_struct Tryz.underlying32
  obtain ⟨a, ha, _⟩ := (hf _ (.head _)).open_int Tryz.underlying3
  obtain ⟨b, hb, _⟩ := (hf _ (.tail _ (.head _))).open_int Tryz.underlying3
  obtain ⟨c, hc, _⟩ := (hf _ (.tail _ (.tail _ (.head _)))).open_int Tryz.underlying3
  obtain ⟨d, hd, _⟩ := (hf _ (.tail _ (.tail _ (.tail _ (.head _))))).open_int Tryz.underlying3
  obtain ⟨e, he, hw⟩ := (hf _ (.tail _ (.tail _ (.tail _ (.tail _ (.head _)))))).open_str Tryz.underlying9
  refine ⟨⟨a, b, c, d, e⟩, ?_, by unfold reachBytes at hw; show e.length ≤ lim; unfold lim; omega⟩
  match r, hl with
  | [x1, x2, x3, x4, x5], _ =>
    cases ha; cases hb; cases hc; cases hd; cases he
    rfl

theorem rdHops {S : Ents} {v : Value} (h : Rd Tryz.prog S 23 [v]) : ∃ l : List Hop, Reads S 5 v l.length (l.flatMap Hop.cells) ∧ l.length ≤ 2932031007320 ∧ ∀ x ∈ l, x.id.length ≤ lim := by
  obtain ⟨l, hr, hw, _, hp⟩ := h.rows (f := Hop.cells) (p := fun x => x.id.length ≤ lim) Tryz.underlying23 (sz := 5) rfl (fun r hr => by
    obtain ⟨x, hx, hl⟩ := rdHopL hr
    exact ⟨x, hx, hl⟩)
  refine ⟨l, hr, ?_, hp⟩
  have : l.length * 48 ≤ reachBytes := hw
  unfold reachBytes at this; omega

theorem _root_.Go.Lg.Reads.take {S : Ents} {sz n m cap cap' b o : Nat} {xs : List Value} (h : Reads S sz (.slice (some ⟨b, o, none⟩) n cap) n xs) (hm : m ≤ n) (h0 : 0 < n) :
    Reads S sz (.slice (some ⟨b, o, none⟩) m cap') m (xs.take (m * sz)) := by
  obtain ⟨hl, ⟨_, hk⟩ | ⟨b', o', cap2, l, e, fz, hv, hmm, hle, hx⟩⟩ := h
  · omega
  · cases hv
    have h1 : m * sz ≤ n * sz := Nat.mul_le_mul_right _ hm
    refine ⟨by rw [List.length_take]; omega, .inr ⟨b, o, cap', l, e, fz, rfl, hmm, by omega, ?_⟩⟩
    rw [← hx, List.take_take, Nat.min_eq_left h1]

theorem flat_take (l : List Hop) (m : Nat) (h : m ≤ l.length) : (l.flatMap Hop.cells).take (m * 5) = (l.take m).flatMap Hop.cells := by
  induction m generalizing l with
  | zero => simp
  | succ m ih =>
    cases l with
    | nil => simp at h
    | cons x l =>
      have := ih l (by simpa using h)
      rw [List.flatMap_cons, List.take_succ_cons, List.flatMap_cons, ← this, show (m + 1) * 5 = x.cells.length + m * 5 by rw [Hop.len]; omega, List.take_length_add_append]

def encB (x : Hop) : List UInt8 := if hopP x then hopB x else []

section
variable {B : Nat} {S R : Ents} {Q : Value → Ents → Prop}

theorem encodeC {x : Hop} (h : Q (.tuple #[.string (str (encB x)), .int .i64 (hopE x)]) S) : CallWp Tryz.prog B 28 #[.agg x.cells.toArray] Q S := by
  unfold encB hopE at h
  by_cases hp : hopP x
  · rw [if_pos hp, if_pos hp] at h; exact encode_yes hp h
  · rw [if_neg hp, if_neg hp] at h; exact encode_no hp h
end
end Go.Proofs.C

namespace Go.Proofs.D
open Go.Lg Go.Sha Go.Hd
set_option maxRecDepth 100000
/-- The cells of keys. -/
def _root_.Go.Hd.HK.cells (k : HK) : List Value := [.string (str k.flow), .string (str k.mac), .string (str k.body), .string (str k.blind), .string (str k.tag)]
/-- The cells of a hop: its secret, its keys. -/
def hopC (s : List UInt8) (k : HK) : List Value := .string (str s) :: k.cells
attribute [local irreducible] derive hmac stream
section
variable {B : Nat} {S R : Ents} {Q : Value → Ents → Prop}
theorem hkeyC {s label : List UInt8} {n : Nat} (hk : KsIn S) (hn : n ≤ 8160) (h1 : s.length + 1000 ≤ big) (h2 : label.length + 2000 ≤ big) (H : Q (.string (str (derive s label n))) S) : CallWp Tryz.prog B 27 #[.agg #[.string (str s)], .string (str label), .int .i64 (n : Int)] Q S := by
  refine CallWp.enter (args := [_, _, _]) Tryz.func27 rfl Tryz.ntmps27 rfl ?_
  refine Wp.seq (Wp.region ?_)
  refine OWp.step rfl (Step.box rfl rfl rfl ?_); intro L hBL hLL
  refine OWp.evs 1 rfl ?_
  refine OWp.nil ?_
  refine Wp.seq (Wp.region ?_)
  refine OWp.evs 1 rfl ?_
  first | refine OWp.load (List.Mem.head _) rfl rfl rfl rfl rfl ?_ | refine OWp.load (List.Mem.tail _ (List.Mem.head _)) rfl rfl rfl rfl rfl ?_ | refine OWp.load (List.Mem.tail _ (List.Mem.tail _ (List.Mem.head _))) rfl rfl rfl rfl rfl ?_ | refine OWp.load (List.Mem.tail _ (List.Mem.tail _ (List.Mem.tail _ (List.Mem.head _)))) rfl rfl rfl rfl rfl ?_ | refine OWp.load (List.Mem.tail _ (List.Mem.tail _ (List.Mem.tail _ (List.Mem.tail _ (List.Mem.head _))))) rfl rfl rfl rfl rfl ?_ | refine OWp.load (List.Mem.tail _ (List.Mem.tail _ (List.Mem.tail _ (List.Mem.tail _ (List.Mem.tail _ (List.Mem.head _)))))) rfl rfl rfl rfl rfl ?_
  refine OWp.evs 2 rfl ?_
  refine OWp.step rfl (Step.call rfl rfl rfl rfl rfl rfl ((deriveC hk.cons hn h1 h2 ?_)))
  refine OWp.evs 5 rfl ?_
  refine OWp.nil ?_
  refine Wp.dropAt 0 rfl ?_
  refine Wp.seq (Wp.region ?_)
  refine OWp.evs 2 rfl ?_
  refine OWp.nil ?_
  refine Wp.ret ⟨trivial, _, ⟨_, _, rfl, rfl, rfl⟩, ?_⟩
  exact H
theorem hzerosC {n : Nat} (hn : n ≤ 2147483648) (H : Q (.string (str (List.replicate n 0))) S) : CallWp Tryz.prog B 25 #[.int .i64 (n : Int)] Q S := by
  refine CallWp.enter (args := [_]) Tryz.func25 rfl Tryz.ntmps25 rfl ?_
  refine Wp.seq (Wp.region ?_)
  refine OWp.evs 1 rfl ?_
  refine OWp.nil ?_
  refine Wp.seq (Wp.region ?_)
  refine OWp.evs 1 rfl ?_
  refine OWp.step rfl (Step.call rfl rfl rfl rfl rfl rfl ((zerosC hn ?_)))
  refine OWp.evs 1 rfl ?_
  refine OWp.nil ?_
  refine Wp.ret ⟨trivial, _, ⟨_, _, rfl, rfl, rfl⟩, ?_⟩
  exact H
theorem xor_self (n : Nat) (h : n < 9223372036854775808) : bits .xor .i64 (n : Int) (n : Int) = 0 := by
  rw [i63_xor h h, Nat.xor_self]; rfl
theorem or_zero_iff (u : Nat) (a b : UInt8) : (u ||| (a ^^^ b).toNat) = 0 ↔ u = 0 ∧ a = b := by
  rw [Nat.or_eq_zero_iff]
  refine and_congr_right fun _ => ?_
  rw [show (0 : Nat) = (0 : UInt8).toNat from rfl, UInt8.toNat_inj, UInt8.xor_eq_zero_iff]
theorem or_byte_lt (u : Nat) (a : UInt8) (h : u < 256) : u ||| a.toNat < 256 := Nat.or_lt_two_pow (n := 8) h a.toNat_lt
theorem unlike_term (u : Nat) (a b : UInt8) (h : u < 256) : bits .or .i64 (u : Int) (IntKind.i64.wrap (bits .xor .u8 (a.toNat : Int) (b.toNat : Int))) = ((u ||| (a ^^^ b).toNat : Nat) : Int) := by
  have h2 := (a ^^^ b).toNat_lt
  rw [xor8, i64_id (by omega) (by omega), i63_or (by omega) (by omega)]
theorem take_eq_succ {a b : List UInt8} {i : Nat} (h : i < a.length) (hb : i < b.length) : a.take (i + 1) = b.take (i + 1) ↔ a.take i = b.take i ∧ a.getD i 0 = b.getD i 0 := by
  rw [List.take_succ_eq_append_getElem h, List.take_succ_eq_append_getElem hb, List.getD_eq_getElem?_getD, List.getD_eq_getElem?_getD, List.getElem?_eq_getElem h, List.getElem?_eq_getElem hb]
  constructor
  · intro e
    have := List.append_inj e (by simp; omega)
    exact ⟨this.1, by simpa using this.2⟩
  · rintro ⟨e1, e2⟩
    have e3 : a[i] = b[i] := by simpa using e2
    rw [e1, e3]
theorem sameC {a b : List UInt8} (h : a.length = b.length) (hl : a.length ≤ big) (H : Q (.bool (decide (a = b))) S) : CallWp Tryz.prog B 45 #[.string (str a), .string (str b)] Q S := by
  have hlim : big = 281474976710656 := rfl
  rw [hlim] at hl
  obtain ⟨n, hn⟩ : ∃ n, n = a.length := ⟨_, rfl⟩
  have hb : n = b.length := by omega
  refine CallWp.enter (args := [_, _]) Tryz.func45 rfl Tryz.ntmps45 rfl ?_
  refine Wp.seq (Wp.region ?_)
  refine OWp.evs 1 rfl ?_
  refine OWp.nil ?_
  refine Wp.seq (Wp.region ?_)
  refine OWp.evs 6 rfl ?_
  refine OWp.nil ?_
  refine Wp.seq ?_
  refine Wp.seq (Wp.region ?_)
  refine OWp.evs 6 rfl ?_
  refine OWp.nil ?_
  refine Wp.block ?_
  refine Wp.loopS (α := Nat × Nat) (fun z => n - z.1) (fun z => [(0, .string (str a)), (1, .string (str b)), (5, .int .i64 (z.2 : Int)), (16, .int .i64 (n : Int)), (17, .int .i64 (z.1 : Int))]) (fun _ => S) (fun z => z.1 ≤ n ∧ z.2 < 256 ∧ (z.2 = 0 ↔ a.take z.1 = b.take z.1)) (0, 0) ?_ (.refl _) ⟨Nat.zero_le _, by decide, by simp⟩ ?_
  · exact .cons rfl (.cons rfl (.cons' rfl (int_eq (by rw [← h]; exact (xor_self _ (by omega)))) (.cons' rfl (int_eq (by rw [← h, hn]; exact (if_neg (by omega)))) (.cons rfl (.nil _)))))
  rintro ⟨i, u⟩ ⟨hi, hu, hiff⟩
  simp only at hi hu hiff ⊢
  refine Wp.seq (Wp.region ?_)
  refine OWp.evs 1 rfl ?_
  refine OWp.nil ?_
  refine Wp.seq ?_
  refine Wp.cond rfl (fun h1 => ?_) (fun h1 => ?_)
  · have h1 := of_decide_eq_true h1
    have hi2 : i < n := by omega
    refine Wp.skip ?_
    refine Wp.seq ?_
    refine Wp.block ?_
    refine Wp.seq (Wp.region ?_)
    refine OWp.evs 2 rfl ?_
    refine OWp.nil ?_
    refine Wp.regionDraw [0, 1, 2, 3, 4, 5, 6, 7, 8, 9, 10] [] rfl (by decide +kernel) ?_
    refine DWp.evs 3 rfl ?_
    refine DWp.g rfl rfl rfl rfl (Gives.indexStr (b := (a.getD i 0)) rfl rfl rfl rfl (by omega) (getD_some (by omega))) ?_
    refine DWp.evs 2 rfl ?_
    refine DWp.g rfl rfl rfl rfl (Gives.indexStr (b := (b.getD i 0)) rfl rfl rfl rfl (by omega) (getD_some (by omega))) ?_
    refine DWp.evs 4 rfl ?_
    refine DWp.nil ?_
    refine Wp.region ?_
    refine OWp.evs 2 rfl ?_
    refine OWp.nil ?_
    refine ⟨(i + 1, u ||| (a.getD i 0 ^^^ b.getD i 0).toNat), by simp only; omega, ⟨by simp only; omega, or_byte_lt _ _ hu, ?_⟩, .cons rfl (.cons rfl (.cons' rfl (int_eq (unlike_term u _ _ hu)) (.cons rfl (.cons' rfl (int_eq (i64_inc (by omega))) (.nil _))))), .refl _⟩
    simp only
    rw [or_zero_iff, hiff, take_eq_succ (by omega) (by omega)]
  have h1 := of_decide_eq_false h1
  obtain rfl : i = n := by omega
  have e : decide (a = b) = decide ((u : Int) = 0) := by
    rw [decide_eq_decide, ← List.take_of_length_le (Nat.le_of_eq hn.symm), ← List.take_of_length_le (l := b) (Nat.le_of_eq hb.symm), ← hiff]; omega
  rw [e] at H
  refine Wp.exit ?_
  refine Wp.seq (Wp.region ?_)
  refine OWp.evs 3 rfl ?_
  refine OWp.nil ?_
  refine Wp.ret ⟨trivial, _, ⟨_, _, rfl, rfl, rfl⟩, ?_⟩
  exact H
theorem sbytesNC {key : List UInt8} {n : Nat} (hk : key.length = 32) (hn : n ≤ 65536) (H : Q (.tuple #[.string (str (stream key zeros12 0 n)), .int .i64 0]) S) : CallWp Tryz.prog B 68 #[.string (str key), .string (str zeros12), .int .i64 (n : Int)] Q S := by
  have hx : xors (List.replicate n 0) (stream key zeros12 0 n) = stream key zeros12 0 n := by
    have hl := stream_len key zeros12 0 n
    apply List.ext_getElem?
    intro i
    unfold xors
    by_cases hi : i < n
    · rw [List.getElem?_zipWith, List.getElem?_eq_getElem (by simpa using hi), List.getElem?_eq_getElem (by rw [hl]; exact hi)]
      simp
    · rw [List.getElem?_eq_none (by simp; omega), List.getElem?_eq_none (by rw [hl]; omega)]
  refine CallWp.enter (args := [_, _, _]) Tryz.func68 rfl Tryz.ntmps68 rfl ?_
  refine Wp.seq (Wp.region ?_)
  refine OWp.evs 2 rfl ?_
  refine OWp.nil ?_
  refine Wp.seq ?_
  refine Wp.seq (Wp.region ?_)
  refine OWp.evs 2 rfl ?_
  refine OWp.step rfl (Step.call rfl rfl rfl rfl rfl rfl ((wrongC (c := 0) hk rfl (by decide) ?_)))
  refine OWp.evs 1 rfl ?_
  refine OWp.nil ?_
  refine Wp.seq (Wp.region ?_)
  refine OWp.evs 2 rfl ?_
  refine OWp.nil ?_
  refine Wp.cond rfl (fun cc1 => absurd (ndT cc1) (by decide)) (fun cc1 => ?_)
  have cc1 := ndF cc1
  refine Wp.skip ?_
  refine Wp.seq ?_
  refine Wp.seq (Wp.region ?_)
  refine OWp.evs 3 rfl ?_
  refine OWp.part 17 rfl (fun cc2 => absurd (of_decide_eq_true cc2) (by omega)) (fun cc2 => ?_)
  have cc2 := of_decide_eq_false cc2
  refine OWp.evs 3 rfl ?_
  refine OWp.nil ?_
  refine Wp.cond rfl (fun cc3 => absurd (of_decide_eq_true cc3) (by omega)) (fun cc3 => ?_)
  have cc3 := of_decide_eq_false cc3
  refine Wp.skip ?_
  refine Wp.seq (Wp.region ?_)
  refine OWp.evs 3 rfl ?_
  refine OWp.step rfl (Step.call rfl rfl rfl rfl rfl rfl ((zerosC (by omega) ?_)))
  refine OWp.step rfl (Step.call rfl rfl rfl rfl rfl rfl ((xorC (c := 0) hk rfl (by decide) (by rw [List.length_replicate]; exact hn) ?_)))
  rw [List.length_replicate, hx]
  refine OWp.evs 4 rfl ?_
  refine OWp.nil ?_
  refine Wp.ret ⟨trivial, _, ⟨_, _, rfl, rfl, _, _, rfl, rfl, rfl⟩, ?_⟩
  exact H
end
end Go.Proofs.D
