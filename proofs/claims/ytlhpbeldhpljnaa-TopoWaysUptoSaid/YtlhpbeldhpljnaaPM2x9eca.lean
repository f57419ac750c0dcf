/- What functions of the given program do, one after the other, told by that layer. -/
import Derived.Test.YtlhpbeldhpljnaaPM1xc148
import Derived.Test.YtlhpbeldhpljnaaLgM2x164e
namespace Go.Proofs.C
open Go.Lg
set_option maxRecDepth 100000

theorem cells_put {a b c d : UInt8} {id : List UInt8} {i : Nat} {y : UInt8} (h : i < 20) (hy : id[i]? = some y) :
    wr (byteCells (a :: b :: c :: d :: (id.take i ++ List.replicate (20 - i) 0))) (4 + i) [.int .u8 (y.toNat : Int)] = byteCells (a :: b :: c :: d :: (id.take (i + 1) ++ List.replicate (20 - (i + 1)) 0)) := by
  have hl : i < id.length := (List.getElem?_eq_some_iff.1 hy).1
  obtain ⟨r, hr⟩ : ∃ r, 20 - i = r + 1 := ⟨20 - i - 1, by omega⟩
  have e1 : 20 - (i + 1) = r := by omega
  unfold wr
  rw [show [Value.int .u8 (y.toNat : Int)] = byteCells [y] from rfl]
  have hlen : (id.take i).length = i := by rw [List.length_take]; omega
  simp only [byteCells, ← List.map_take, ← List.map_drop, ← List.map_append]
  congr 1
  rw [show 4 + i = i + 4 by omega]
  show [a, b, c, d] ++ (id.take i ++ List.replicate (20 - i) 0).take i ++ [y] ++ (id.take i ++ List.replicate (20 - i) 0).drop (i + 1) = _
  rw [List.take_append_of_le_length (by omega), List.take_of_length_le (by omega), hr, e1]
  rw [List.drop_append, hlen, List.drop_of_length_le (by omega), List.replicate_succ]
  rw [List.take_add_one, hy]
  simp [show i + 1 - i = 1 by omega]

section
variable {B : Nat} {S R : Ents} {Q : Value → Ents → Prop}

theorem rcheckC {x : Hop} (h : Q (.int .i64 (hopE x)) S) : CallWp Try.prog B 34 #[.agg x.cells.toArray] Q S := by
  have hno : ¬ hopP x → Q (.int .i64 70) S := fun e => by rw [hopE_no e] at h; exact h
  have hyes : hopP x → Q (.int .i64 0) S := fun e => by rw [hopE_yes e] at h; exact h
  clear h
  unfold hopP at hno hyes
  refine CallWp.enter (args := [_]) Try.func34 rfl Try.ntmps34 rfl ?_
  refine Wp.seq (Wp.region ?_)
  refine OWp.step rfl (Step.box rfl rfl rfl ?_); intro L1 hBL1 hLL1
  refine OWp.evs 1 rfl ?_
  refine OWp.nil ?_
  refine Wp.seq (Wp.region ?_)
  refine OWp.evs 1 rfl ?_
  first | refine OWp.load (List.Mem.head _) rfl rfl rfl rfl rfl ?_ | refine OWp.load (List.Mem.tail _ (List.Mem.head _)) rfl rfl rfl rfl rfl ?_ | refine OWp.load (List.Mem.tail _ (List.Mem.tail _ (List.Mem.head _))) rfl rfl rfl rfl rfl ?_ | refine OWp.load (List.Mem.tail _ (List.Mem.tail _ (List.Mem.tail _ (List.Mem.head _)))) rfl rfl rfl rfl rfl ?_ | refine OWp.load (List.Mem.tail _ (List.Mem.tail _ (List.Mem.tail _ (List.Mem.tail _ (List.Mem.head _))))) rfl rfl rfl rfl rfl ?_ | refine OWp.load (List.Mem.tail _ (List.Mem.tail _ (List.Mem.tail _ (List.Mem.tail _ (List.Mem.tail _ (List.Mem.head _)))))) rfl rfl rfl rfl rfl ?_
  refine OWp.evs 3 rfl ?_
  refine OWp.nil ?_
  refine Wp.seqS (α := Unit) (fun _ => [(1, pt L1), (3, .bool (decide ((x.id.length : Int) = 16))), (4, .bool (decide (0 ≤ x.delay ∧ x.delay ≤ 4096)))]) (fun _ => (L1, cel x.cells 43) :: S) (fun _ => True) ?_ ?_
  · skip
    refine Wp.region ?_
    refine OWp.evs 1 rfl ?_
    first | refine OWp.load (List.Mem.head _) rfl rfl rfl rfl rfl ?_ | refine OWp.load (List.Mem.tail _ (List.Mem.head _)) rfl rfl rfl rfl rfl ?_ | refine OWp.load (List.Mem.tail _ (List.Mem.tail _ (List.Mem.head _))) rfl rfl rfl rfl rfl ?_ | refine OWp.load (List.Mem.tail _ (List.Mem.tail _ (List.Mem.tail _ (List.Mem.head _)))) rfl rfl rfl rfl rfl ?_ | refine OWp.load (List.Mem.tail _ (List.Mem.tail _ (List.Mem.tail _ (List.Mem.tail _ (List.Mem.head _))))) rfl rfl rfl rfl rfl ?_ | refine OWp.load (List.Mem.tail _ (List.Mem.tail _ (List.Mem.tail _ (List.Mem.tail _ (List.Mem.tail _ (List.Mem.head _)))))) rfl rfl rfl rfl rfl ?_
    refine OWp.evs 2 rfl ?_
    refine OWp.part 13 rfl (fun h1 => ?_) (fun h1 => ?_)
    · have h1 := of_decide_eq_true h1
      refine OWp.evs 1 rfl ?_
      first | refine OWp.load (List.Mem.head _) rfl rfl rfl rfl rfl ?_ | refine OWp.load (List.Mem.tail _ (List.Mem.head _)) rfl rfl rfl rfl rfl ?_ | refine OWp.load (List.Mem.tail _ (List.Mem.tail _ (List.Mem.head _))) rfl rfl rfl rfl rfl ?_ | refine OWp.load (List.Mem.tail _ (List.Mem.tail _ (List.Mem.tail _ (List.Mem.head _)))) rfl rfl rfl rfl rfl ?_ | refine OWp.load (List.Mem.tail _ (List.Mem.tail _ (List.Mem.tail _ (List.Mem.tail _ (List.Mem.head _))))) rfl rfl rfl rfl rfl ?_ | refine OWp.load (List.Mem.tail _ (List.Mem.tail _ (List.Mem.tail _ (List.Mem.tail _ (List.Mem.tail _ (List.Mem.head _)))))) rfl rfl rfl rfl rfl ?_
      refine OWp.evs 3 rfl ?_
      refine OWp.nil ?_
      exact ⟨(), trivial, .cons rfl (.cons rfl (.cons' rfl (congrArg Value.bool (decide_eq_decide.2 (show x.delay ≤ 4096 ↔ (0 ≤ x.delay ∧ x.delay ≤ 4096) by omega))) (.nil _))), .refl _⟩
    have h1 := of_decide_eq_false h1
    refine OWp.evs 5 rfl ?_
    refine OWp.nil ?_
    exact ⟨(), trivial, .cons rfl (.cons rfl (.cons' rfl (congrArg Value.bool (decide_eq_false (show ¬ (0 ≤ x.delay ∧ x.delay ≤ 4096) by omega)).symm) (.nil _))), .refl _⟩
  rintro ⟨⟩ -
  refine Wp.seq (Wp.region ?_)
  refine OWp.evs 1 rfl ?_
  refine OWp.nil ?_
  refine Wp.seq ?_
  refine Wp.seq (Wp.region ?_)
  refine OWp.evs 1 rfl ?_
  first | refine OWp.load (List.Mem.head _) rfl rfl rfl rfl rfl ?_ | refine OWp.load (List.Mem.tail _ (List.Mem.head _)) rfl rfl rfl rfl rfl ?_ | refine OWp.load (List.Mem.tail _ (List.Mem.tail _ (List.Mem.head _))) rfl rfl rfl rfl rfl ?_ | refine OWp.load (List.Mem.tail _ (List.Mem.tail _ (List.Mem.tail _ (List.Mem.head _)))) rfl rfl rfl rfl rfl ?_ | refine OWp.load (List.Mem.tail _ (List.Mem.tail _ (List.Mem.tail _ (List.Mem.tail _ (List.Mem.head _))))) rfl rfl rfl rfl rfl ?_ | refine OWp.load (List.Mem.tail _ (List.Mem.tail _ (List.Mem.tail _ (List.Mem.tail _ (List.Mem.tail _ (List.Mem.head _)))))) rfl rfl rfl rfl rfl ?_
  refine OWp.nil ?_
  refine Wp.block ?_
  refine Wp.seq (Wp.region ?_)
  refine OWp.evs 2 rfl ?_
  refine OWp.nil ?_
  refine Wp.cond rfl (fun k1 => ?_) (fun k1 => ?_)
  · have k1 := of_decide_eq_true k1
    refine Wp.region ?_
    refine OWp.evs 1 rfl ?_
    first | refine OWp.load (List.Mem.head _) rfl rfl rfl rfl rfl ?_ | refine OWp.load (List.Mem.tail _ (List.Mem.head _)) rfl rfl rfl rfl rfl ?_ | refine OWp.load (List.Mem.tail _ (List.Mem.tail _ (List.Mem.head _))) rfl rfl rfl rfl rfl ?_ | refine OWp.load (List.Mem.tail _ (List.Mem.tail _ (List.Mem.tail _ (List.Mem.head _)))) rfl rfl rfl rfl rfl ?_ | refine OWp.load (List.Mem.tail _ (List.Mem.tail _ (List.Mem.tail _ (List.Mem.tail _ (List.Mem.head _))))) rfl rfl rfl rfl rfl ?_ | refine OWp.load (List.Mem.tail _ (List.Mem.tail _ (List.Mem.tail _ (List.Mem.tail _ (List.Mem.tail _ (List.Mem.head _)))))) rfl rfl rfl rfl rfl ?_
    refine OWp.evs 2 rfl ?_
    refine OWp.part 25 rfl (fun a1 => ?_) (fun a1 => ?_)
    · have a1 := of_decide_eq_true a1
      refine OWp.evs 1 rfl ?_
      first | refine OWp.load (List.Mem.head _) rfl rfl rfl rfl rfl ?_ | refine OWp.load (List.Mem.tail _ (List.Mem.head _)) rfl rfl rfl rfl rfl ?_ | refine OWp.load (List.Mem.tail _ (List.Mem.tail _ (List.Mem.head _))) rfl rfl rfl rfl rfl ?_ | refine OWp.load (List.Mem.tail _ (List.Mem.tail _ (List.Mem.tail _ (List.Mem.head _)))) rfl rfl rfl rfl rfl ?_ | refine OWp.load (List.Mem.tail _ (List.Mem.tail _ (List.Mem.tail _ (List.Mem.tail _ (List.Mem.head _))))) rfl rfl rfl rfl rfl ?_ | refine OWp.load (List.Mem.tail _ (List.Mem.tail _ (List.Mem.tail _ (List.Mem.tail _ (List.Mem.tail _ (List.Mem.head _)))))) rfl rfl rfl rfl rfl ?_
      refine OWp.evs 3 rfl ?_
      refine OWp.part 30 rfl (fun a2 => ?_) (fun a2 => ?_)
      · have a2 := of_decide_eq_true a2
        refine OWp.evs 3 rfl ?_
        refine OWp.part 33 rfl (fun a3 => ?_) (fun a3 => ?_)
        · skip
          have a3 := of_decide_eq_true a3
          refine OWp.evs 1 rfl ?_
          first | refine OWp.load (List.Mem.head _) rfl rfl rfl rfl rfl ?_ | refine OWp.load (List.Mem.tail _ (List.Mem.head _)) rfl rfl rfl rfl rfl ?_ | refine OWp.load (List.Mem.tail _ (List.Mem.tail _ (List.Mem.head _))) rfl rfl rfl rfl rfl ?_ | refine OWp.load (List.Mem.tail _ (List.Mem.tail _ (List.Mem.tail _ (List.Mem.head _)))) rfl rfl rfl rfl rfl ?_ | refine OWp.load (List.Mem.tail _ (List.Mem.tail _ (List.Mem.tail _ (List.Mem.tail _ (List.Mem.head _))))) rfl rfl rfl rfl rfl ?_ | refine OWp.load (List.Mem.tail _ (List.Mem.tail _ (List.Mem.tail _ (List.Mem.tail _ (List.Mem.tail _ (List.Mem.head _)))))) rfl rfl rfl rfl rfl ?_
          refine OWp.evs 3 rfl ?_
          refine OWp.part 38 rfl (fun a4 => ?_) (fun a4 => ?_)
          · have a4 := of_decide_eq_true a4
            refine OWp.evs 1 rfl ?_
            first | refine OWp.load (List.Mem.head _) rfl rfl rfl rfl rfl ?_ | refine OWp.load (List.Mem.tail _ (List.Mem.head _)) rfl rfl rfl rfl rfl ?_ | refine OWp.load (List.Mem.tail _ (List.Mem.tail _ (List.Mem.head _))) rfl rfl rfl rfl rfl ?_ | refine OWp.load (List.Mem.tail _ (List.Mem.tail _ (List.Mem.tail _ (List.Mem.head _)))) rfl rfl rfl rfl rfl ?_ | refine OWp.load (List.Mem.tail _ (List.Mem.tail _ (List.Mem.tail _ (List.Mem.tail _ (List.Mem.head _))))) rfl rfl rfl rfl rfl ?_ | refine OWp.load (List.Mem.tail _ (List.Mem.tail _ (List.Mem.tail _ (List.Mem.tail _ (List.Mem.tail _ (List.Mem.head _)))))) rfl rfl rfl rfl rfl ?_
            refine OWp.evs 3 rfl ?_
            refine OWp.nil ?_
            refine Wp.seq ?_
            refine Wp.seq (Wp.region ?_)
            refine OWp.evs 2 rfl ?_
            refine OWp.nil ?_
            refine Wp.cond rfl (fun a5 => ?_) (fun a5 => ?_)
            · have a5 := ndT a5
              have a5 := mt nil_len.2 a5
              refine Wp.drop (S' := S) (by repeat (first | exact List.Sublist.refl _ | exact List.sublist_append_right _ _ | apply List.Sublist.cons)) ?_
              refine Wp.seq (Wp.region ?_)
              refine OWp.evs 1 rfl ?_
              refine OWp.nil ?_
              refine Wp.ret ⟨trivial, _, ⟨_, _, rfl, rfl, rfl⟩, ?_⟩
              exact hno (by omega)
            have a5 := ndF a5
            have a5 := nil_len.1 a5
            refine Wp.skip ?_
            refine Wp.drop (S' := S) (by repeat (first | exact List.Sublist.refl _ | exact List.sublist_append_right _ _ | apply List.Sublist.cons)) ?_
            refine Wp.seq (Wp.region ?_)
            refine OWp.evs 1 rfl ?_
            refine OWp.nil ?_
            refine Wp.ret ⟨trivial, _, ⟨_, _, rfl, rfl, rfl⟩, ?_⟩
            exact hyes (by omega)
          have a4 := of_decide_eq_false a4
          refine OWp.evs 5 rfl ?_
          refine OWp.nil ?_
          refine Wp.seq ?_
          refine Wp.drop (S' := S) (by repeat (first | exact List.Sublist.refl _ | exact List.sublist_append_right _ _ | apply List.Sublist.cons)) ?_
          refine Wp.seq (Wp.region ?_)
          refine OWp.evs 2 rfl ?_
          refine OWp.nil ?_
          refine Wp.cond rfl (fun _ => ?_) (fun c => nomatch c)
          refine Wp.seq (Wp.region ?_)
          refine OWp.evs 1 rfl ?_
          refine OWp.nil ?_
          refine Wp.ret ⟨trivial, _, ⟨_, _, rfl, rfl, rfl⟩, ?_⟩
          exact hno (by omega)
        have a3 := of_decide_eq_false a3
        refine OWp.evs 10 rfl ?_
        refine OWp.nil ?_
        refine Wp.seq ?_
        refine Wp.drop (S' := S) (by repeat (first | exact List.Sublist.refl _ | exact List.sublist_append_right _ _ | apply List.Sublist.cons)) ?_
        refine Wp.seq (Wp.region ?_)
        refine OWp.evs 2 rfl ?_
        refine OWp.nil ?_
        refine Wp.cond rfl (fun _ => ?_) (fun c => nomatch c)
        refine Wp.seq (Wp.region ?_)
        refine OWp.evs 1 rfl ?_
        refine OWp.nil ?_
        refine Wp.ret ⟨trivial, _, ⟨_, _, rfl, rfl, rfl⟩, ?_⟩
        exact hno (by omega)
      have a2 := of_decide_eq_false a2
      refine OWp.evs 13 rfl ?_
      refine OWp.nil ?_
      refine Wp.seq ?_
      refine Wp.drop (S' := S) (by repeat (first | exact List.Sublist.refl _ | exact List.sublist_append_right _ _ | apply List.Sublist.cons)) ?_
      refine Wp.seq (Wp.region ?_)
      refine OWp.evs 2 rfl ?_
      refine OWp.nil ?_
      refine Wp.cond rfl (fun _ => ?_) (fun c => nomatch c)
      refine Wp.seq (Wp.region ?_)
      refine OWp.evs 1 rfl ?_
      refine OWp.nil ?_
      refine Wp.ret ⟨trivial, _, ⟨_, _, rfl, rfl, rfl⟩, ?_⟩
      exact hno (by omega)
    have a1 := of_decide_eq_false a1
    refine OWp.evs 18 rfl ?_
    refine OWp.nil ?_
    refine Wp.seq ?_
    refine Wp.drop (S' := S) (by repeat (first | exact List.Sublist.refl _ | exact List.sublist_append_right _ _ | apply List.Sublist.cons)) ?_
    refine Wp.seq (Wp.region ?_)
    refine OWp.evs 2 rfl ?_
    refine OWp.nil ?_
    refine Wp.cond rfl (fun _ => ?_) (fun c => nomatch c)
    refine Wp.seq (Wp.region ?_)
    refine OWp.evs 1 rfl ?_
    refine OWp.nil ?_
    refine Wp.ret ⟨trivial, _, ⟨_, _, rfl, rfl, rfl⟩, ?_⟩
    exact hno (by omega)
  have k1 := of_decide_eq_false k1
  refine Wp.seq (Wp.region ?_)
  refine OWp.evs 2 rfl ?_
  refine OWp.nil ?_
  refine Wp.cond rfl (fun k2 => ?_) (fun k2 => ?_)
  · have k2 := of_decide_eq_true k2
    refine Wp.region ?_
    refine OWp.evs 1 rfl ?_
    first | refine OWp.load (List.Mem.head _) rfl rfl rfl rfl rfl ?_ | refine OWp.load (List.Mem.tail _ (List.Mem.head _)) rfl rfl rfl rfl rfl ?_ | refine OWp.load (List.Mem.tail _ (List.Mem.tail _ (List.Mem.head _))) rfl rfl rfl rfl rfl ?_ | refine OWp.load (List.Mem.tail _ (List.Mem.tail _ (List.Mem.tail _ (List.Mem.head _)))) rfl rfl rfl rfl rfl ?_ | refine OWp.load (List.Mem.tail _ (List.Mem.tail _ (List.Mem.tail _ (List.Mem.tail _ (List.Mem.head _))))) rfl rfl rfl rfl rfl ?_ | refine OWp.load (List.Mem.tail _ (List.Mem.tail _ (List.Mem.tail _ (List.Mem.tail _ (List.Mem.tail _ (List.Mem.head _)))))) rfl rfl rfl rfl rfl ?_
    refine OWp.evs 2 rfl ?_
    refine OWp.part 48 rfl (fun a1 => ?_) (fun a1 => ?_)
    · have a1 := of_decide_eq_true a1
      refine OWp.evs 1 rfl ?_
      first | refine OWp.load (List.Mem.head _) rfl rfl rfl rfl rfl ?_ | refine OWp.load (List.Mem.tail _ (List.Mem.head _)) rfl rfl rfl rfl rfl ?_ | refine OWp.load (List.Mem.tail _ (List.Mem.tail _ (List.Mem.head _))) rfl rfl rfl rfl rfl ?_ | refine OWp.load (List.Mem.tail _ (List.Mem.tail _ (List.Mem.tail _ (List.Mem.head _)))) rfl rfl rfl rfl rfl ?_ | refine OWp.load (List.Mem.tail _ (List.Mem.tail _ (List.Mem.tail _ (List.Mem.tail _ (List.Mem.head _))))) rfl rfl rfl rfl rfl ?_ | refine OWp.load (List.Mem.tail _ (List.Mem.tail _ (List.Mem.tail _ (List.Mem.tail _ (List.Mem.tail _ (List.Mem.head _)))))) rfl rfl rfl rfl rfl ?_
      refine OWp.evs 3 rfl ?_
      refine OWp.part 53 rfl (fun a2 => ?_) (fun a2 => ?_)
      · have a2 := of_decide_eq_true a2
        refine OWp.evs 3 rfl ?_
        refine OWp.part 56 rfl (fun a3 => ?_) (fun a3 => ?_)
        · skip
          have a3 := of_decide_eq_true a3
          refine OWp.evs 3 rfl ?_
          refine OWp.part 59 rfl (fun a4 => ?_) (fun a4 => ?_)
          · skip
            have a4 := of_decide_eq_true a4
            refine OWp.evs 1 rfl ?_
            first | refine OWp.load (List.Mem.head _) rfl rfl rfl rfl rfl ?_ | refine OWp.load (List.Mem.tail _ (List.Mem.head _)) rfl rfl rfl rfl rfl ?_ | refine OWp.load (List.Mem.tail _ (List.Mem.tail _ (List.Mem.head _))) rfl rfl rfl rfl rfl ?_ | refine OWp.load (List.Mem.tail _ (List.Mem.tail _ (List.Mem.tail _ (List.Mem.head _)))) rfl rfl rfl rfl rfl ?_ | refine OWp.load (List.Mem.tail _ (List.Mem.tail _ (List.Mem.tail _ (List.Mem.tail _ (List.Mem.head _))))) rfl rfl rfl rfl rfl ?_ | refine OWp.load (List.Mem.tail _ (List.Mem.tail _ (List.Mem.tail _ (List.Mem.tail _ (List.Mem.tail _ (List.Mem.head _)))))) rfl rfl rfl rfl rfl ?_
            refine OWp.evs 3 rfl ?_
            refine OWp.nil ?_
            refine Wp.seq ?_
            refine Wp.seq (Wp.region ?_)
            refine OWp.evs 2 rfl ?_
            refine OWp.nil ?_
            refine Wp.cond rfl (fun a5 => ?_) (fun a5 => ?_)
            · have a5 := ndT a5
              refine Wp.drop (S' := S) (by repeat (first | exact List.Sublist.refl _ | exact List.sublist_append_right _ _ | apply List.Sublist.cons)) ?_
              refine Wp.seq (Wp.region ?_)
              refine OWp.evs 1 rfl ?_
              refine OWp.nil ?_
              refine Wp.ret ⟨trivial, _, ⟨_, _, rfl, rfl, rfl⟩, ?_⟩
              exact hno (by omega)
            have a5 := ndF a5
            refine Wp.skip ?_
            refine Wp.drop (S' := S) (by repeat (first | exact List.Sublist.refl _ | exact List.sublist_append_right _ _ | apply List.Sublist.cons)) ?_
            refine Wp.seq (Wp.region ?_)
            refine OWp.evs 1 rfl ?_
            refine OWp.nil ?_
            refine Wp.ret ⟨trivial, _, ⟨_, _, rfl, rfl, rfl⟩, ?_⟩
            exact hyes (by omega)
          have a4 := of_decide_eq_false a4
          refine OWp.evs 5 rfl ?_
          refine OWp.nil ?_
          refine Wp.seq ?_
          refine Wp.drop (S' := S) (by repeat (first | exact List.Sublist.refl _ | exact List.sublist_append_right _ _ | apply List.Sublist.cons)) ?_
          refine Wp.seq (Wp.region ?_)
          refine OWp.evs 2 rfl ?_
          refine OWp.nil ?_
          refine Wp.cond rfl (fun _ => ?_) (fun c => nomatch c)
          refine Wp.seq (Wp.region ?_)
          refine OWp.evs 1 rfl ?_
          refine OWp.nil ?_
          refine Wp.ret ⟨trivial, _, ⟨_, _, rfl, rfl, rfl⟩, ?_⟩
          exact hno (by omega)
        have a3 := of_decide_eq_false a3
        refine OWp.evs 8 rfl ?_
        refine OWp.nil ?_
        refine Wp.seq ?_
        refine Wp.drop (S' := S) (by repeat (first | exact List.Sublist.refl _ | exact List.sublist_append_right _ _ | apply List.Sublist.cons)) ?_
        refine Wp.seq (Wp.region ?_)
        refine OWp.evs 2 rfl ?_
        refine OWp.nil ?_
        refine Wp.cond rfl (fun _ => ?_) (fun c => nomatch c)
        refine Wp.seq (Wp.region ?_)
        refine OWp.evs 1 rfl ?_
        refine OWp.nil ?_
        refine Wp.ret ⟨trivial, _, ⟨_, _, rfl, rfl, rfl⟩, ?_⟩
        exact hno (by omega)
      have a2 := of_decide_eq_false a2
      refine OWp.evs 11 rfl ?_
      refine OWp.nil ?_
      refine Wp.seq ?_
      refine Wp.drop (S' := S) (by repeat (first | exact List.Sublist.refl _ | exact List.sublist_append_right _ _ | apply List.Sublist.cons)) ?_
      refine Wp.seq (Wp.region ?_)
      refine OWp.evs 2 rfl ?_
      refine OWp.nil ?_
      refine Wp.cond rfl (fun _ => ?_) (fun c => nomatch c)
      refine Wp.seq (Wp.region ?_)
      refine OWp.evs 1 rfl ?_
      refine OWp.nil ?_
      refine Wp.ret ⟨trivial, _, ⟨_, _, rfl, rfl, rfl⟩, ?_⟩
      exact hno (by omega)
    have a1 := of_decide_eq_false a1
    refine OWp.evs 16 rfl ?_
    refine OWp.nil ?_
    refine Wp.seq ?_
    refine Wp.drop (S' := S) (by repeat (first | exact List.Sublist.refl _ | exact List.sublist_append_right _ _ | apply List.Sublist.cons)) ?_
    refine Wp.seq (Wp.region ?_)
    refine OWp.evs 2 rfl ?_
    refine OWp.nil ?_
    refine Wp.cond rfl (fun _ => ?_) (fun c => nomatch c)
    refine Wp.seq (Wp.region ?_)
    refine OWp.evs 1 rfl ?_
    refine OWp.nil ?_
    refine Wp.ret ⟨trivial, _, ⟨_, _, rfl, rfl, rfl⟩, ?_⟩
    exact hno (by omega)
  have k2 := of_decide_eq_false k2
  refine Wp.seq (Wp.region ?_)
  refine OWp.evs 2 rfl ?_
  refine OWp.nil ?_
  refine Wp.cond rfl (fun k3 => ?_) (fun k3 => ?_)
  · have k3 := of_decide_eq_true k3
    refine Wp.region ?_
    refine OWp.evs 2 rfl ?_
    refine OWp.part 67 rfl (fun a4 => ?_) (fun a4 => ?_)
    · skip
      have a4 := of_decide_eq_true a4
      refine OWp.evs 1 rfl ?_
      first | refine OWp.load (List.Mem.head _) rfl rfl rfl rfl rfl ?_ | refine OWp.load (List.Mem.tail _ (List.Mem.head _)) rfl rfl rfl rfl rfl ?_ | refine OWp.load (List.Mem.tail _ (List.Mem.tail _ (List.Mem.head _))) rfl rfl rfl rfl rfl ?_ | refine OWp.load (List.Mem.tail _ (List.Mem.tail _ (List.Mem.tail _ (List.Mem.head _)))) rfl rfl rfl rfl rfl ?_ | refine OWp.load (List.Mem.tail _ (List.Mem.tail _ (List.Mem.tail _ (List.Mem.tail _ (List.Mem.head _))))) rfl rfl rfl rfl rfl ?_ | refine OWp.load (List.Mem.tail _ (List.Mem.tail _ (List.Mem.tail _ (List.Mem.tail _ (List.Mem.tail _ (List.Mem.head _)))))) rfl rfl rfl rfl rfl ?_
      refine OWp.evs 3 rfl ?_
      refine OWp.part 72 rfl (fun a1 => ?_) (fun a1 => ?_)
      · have a1 := of_decide_eq_true a1
        refine OWp.evs 1 rfl ?_
        first | refine OWp.load (List.Mem.head _) rfl rfl rfl rfl rfl ?_ | refine OWp.load (List.Mem.tail _ (List.Mem.head _)) rfl rfl rfl rfl rfl ?_ | refine OWp.load (List.Mem.tail _ (List.Mem.tail _ (List.Mem.head _))) rfl rfl rfl rfl rfl ?_ | refine OWp.load (List.Mem.tail _ (List.Mem.tail _ (List.Mem.tail _ (List.Mem.head _)))) rfl rfl rfl rfl rfl ?_ | refine OWp.load (List.Mem.tail _ (List.Mem.tail _ (List.Mem.tail _ (List.Mem.tail _ (List.Mem.head _))))) rfl rfl rfl rfl rfl ?_ | refine OWp.load (List.Mem.tail _ (List.Mem.tail _ (List.Mem.tail _ (List.Mem.tail _ (List.Mem.tail _ (List.Mem.head _)))))) rfl rfl rfl rfl rfl ?_
        refine OWp.evs 3 rfl ?_
        refine OWp.part 77 rfl (fun a2 => ?_) (fun a2 => ?_)
        · have a2 := of_decide_eq_true a2
          refine OWp.evs 1 rfl ?_
          first | refine OWp.load (List.Mem.head _) rfl rfl rfl rfl rfl ?_ | refine OWp.load (List.Mem.tail _ (List.Mem.head _)) rfl rfl rfl rfl rfl ?_ | refine OWp.load (List.Mem.tail _ (List.Mem.tail _ (List.Mem.head _))) rfl rfl rfl rfl rfl ?_ | refine OWp.load (List.Mem.tail _ (List.Mem.tail _ (List.Mem.tail _ (List.Mem.head _)))) rfl rfl rfl rfl rfl ?_ | refine OWp.load (List.Mem.tail _ (List.Mem.tail _ (List.Mem.tail _ (List.Mem.tail _ (List.Mem.head _))))) rfl rfl rfl rfl rfl ?_ | refine OWp.load (List.Mem.tail _ (List.Mem.tail _ (List.Mem.tail _ (List.Mem.tail _ (List.Mem.tail _ (List.Mem.head _)))))) rfl rfl rfl rfl rfl ?_
          refine OWp.evs 3 rfl ?_
          refine OWp.nil ?_
          refine Wp.seq ?_
          refine Wp.seq (Wp.region ?_)
          refine OWp.evs 2 rfl ?_
          refine OWp.nil ?_
          refine Wp.cond rfl (fun a3 => ?_) (fun a3 => ?_)
          · have a3 := ndT a3
            refine Wp.drop (S' := S) (by repeat (first | exact List.Sublist.refl _ | exact List.sublist_append_right _ _ | apply List.Sublist.cons)) ?_
            refine Wp.seq (Wp.region ?_)
            refine OWp.evs 1 rfl ?_
            refine OWp.nil ?_
            refine Wp.ret ⟨trivial, _, ⟨_, _, rfl, rfl, rfl⟩, ?_⟩
            exact hno (by omega)
          have a3 := ndF a3
          refine Wp.skip ?_
          refine Wp.drop (S' := S) (by repeat (first | exact List.Sublist.refl _ | exact List.sublist_append_right _ _ | apply List.Sublist.cons)) ?_
          refine Wp.seq (Wp.region ?_)
          refine OWp.evs 1 rfl ?_
          refine OWp.nil ?_
          refine Wp.ret ⟨trivial, _, ⟨_, _, rfl, rfl, rfl⟩, ?_⟩
          exact hyes (by omega)
        have a2 := of_decide_eq_false a2
        refine OWp.evs 5 rfl ?_
        refine OWp.nil ?_
        refine Wp.seq ?_
        refine Wp.drop (S' := S) (by repeat (first | exact List.Sublist.refl _ | exact List.sublist_append_right _ _ | apply List.Sublist.cons)) ?_
        refine Wp.seq (Wp.region ?_)
        refine OWp.evs 2 rfl ?_
        refine OWp.nil ?_
        refine Wp.cond rfl (fun _ => ?_) (fun c => nomatch c)
        refine Wp.seq (Wp.region ?_)
        refine OWp.evs 1 rfl ?_
        refine OWp.nil ?_
        refine Wp.ret ⟨trivial, _, ⟨_, _, rfl, rfl, rfl⟩, ?_⟩
        exact hno (by omega)
      have a1 := of_decide_eq_false a1
      refine OWp.evs 10 rfl ?_
      refine OWp.nil ?_
      refine Wp.seq ?_
      refine Wp.drop (S' := S) (by repeat (first | exact List.Sublist.refl _ | exact List.sublist_append_right _ _ | apply List.Sublist.cons)) ?_
      refine Wp.seq (Wp.region ?_)
      refine OWp.evs 2 rfl ?_
      refine OWp.nil ?_
      refine Wp.cond rfl (fun _ => ?_) (fun c => nomatch c)
      refine Wp.seq (Wp.region ?_)
      refine OWp.evs 1 rfl ?_
      refine OWp.nil ?_
      refine Wp.ret ⟨trivial, _, ⟨_, _, rfl, rfl, rfl⟩, ?_⟩
      exact hno (by omega)
    have a4 := of_decide_eq_false a4
    refine OWp.evs 15 rfl ?_
    refine OWp.nil ?_
    refine Wp.seq ?_
    refine Wp.drop (S' := S) (by repeat (first | exact List.Sublist.refl _ | exact List.sublist_append_right _ _ | apply List.Sublist.cons)) ?_
    refine Wp.seq (Wp.region ?_)
    refine OWp.evs 2 rfl ?_
    refine OWp.nil ?_
    refine Wp.cond rfl (fun _ => ?_) (fun c => nomatch c)
    refine Wp.seq (Wp.region ?_)
    refine OWp.evs 1 rfl ?_
    refine OWp.nil ?_
    refine Wp.ret ⟨trivial, _, ⟨_, _, rfl, rfl, rfl⟩, ?_⟩
    exact hno (by omega)
  have k3 := of_decide_eq_false k3
  refine Wp.seq (Wp.region ?_)
  refine OWp.evs 2 rfl ?_
  refine OWp.nil ?_
  refine Wp.cond rfl (fun k4 => ?_) (fun k4 => ?_)
  · have k4 := of_decide_eq_true k4
    refine Wp.region ?_
    first | refine OWp.load (List.Mem.head _) rfl rfl rfl rfl rfl ?_ | refine OWp.load (List.Mem.tail _ (List.Mem.head _)) rfl rfl rfl rfl rfl ?_ | refine OWp.load (List.Mem.tail _ (List.Mem.tail _ (List.Mem.head _))) rfl rfl rfl rfl rfl ?_ | refine OWp.load (List.Mem.tail _ (List.Mem.tail _ (List.Mem.tail _ (List.Mem.head _)))) rfl rfl rfl rfl rfl ?_ | refine OWp.load (List.Mem.tail _ (List.Mem.tail _ (List.Mem.tail _ (List.Mem.tail _ (List.Mem.head _))))) rfl rfl rfl rfl rfl ?_ | refine OWp.load (List.Mem.tail _ (List.Mem.tail _ (List.Mem.tail _ (List.Mem.tail _ (List.Mem.tail _ (List.Mem.head _)))))) rfl rfl rfl rfl rfl ?_
    refine OWp.g rfl rfl (Gives.build rfl rfl) ?_
    refine OWp.g rfl rfl (Gives.eqStruct (r := eqHop x ⟨4, 0, 0, 0, []⟩) 10 rfl rfl rfl rfl hopG (by rfl)) ?_
    refine OWp.evs 1 rfl ?_
    refine OWp.nil ?_
    refine Wp.seq ?_
    refine Wp.seq (Wp.region ?_)
    refine OWp.evs 2 rfl ?_
    refine OWp.nil ?_
    refine Wp.cond rfl (fun a1 => ?_) (fun a1 => ?_)
    · skip
      refine Wp.drop (S' := S) (by repeat (first | exact List.Sublist.refl _ | exact List.sublist_append_right _ _ | apply List.Sublist.cons)) ?_
      refine Wp.seq (Wp.region ?_)
      refine OWp.evs 1 rfl ?_
      refine OWp.nil ?_
      refine Wp.ret ⟨trivial, _, ⟨_, _, rfl, rfl, rfl⟩, ?_⟩
      refine hno fun hp => ?_
      have : eqHop x ⟨4, 0, 0, 0, []⟩ = true := eqHop_iff.2 (Hop.ext (by show x.kind = 4; omega) (by show x.node = 0; omega) (by show x.user = 0; omega) (by show x.delay = 0; omega) (nil_len.2 (by omega)))
      rw [this] at a1
      cases a1
    refine Wp.skip ?_
    refine Wp.drop (S' := S) (by repeat (first | exact List.Sublist.refl _ | exact List.sublist_append_right _ _ | apply List.Sublist.cons)) ?_
    refine Wp.seq (Wp.region ?_)
    refine OWp.evs 1 rfl ?_
    refine OWp.nil ?_
    refine Wp.ret ⟨trivial, _, ⟨_, _, rfl, rfl, rfl⟩, ?_⟩
    have : eqHop x ⟨4, 0, 0, 0, []⟩ = true := by simpa using a1
    have := eqHop_iff.1 this
    have e3 := congrArg Hop.node this
    have e4 := congrArg Hop.user this
    have e5 := congrArg Hop.delay this
    have e6 := nil_len.1 (congrArg Hop.id this)
    simp only at e3 e4 e5
    exact hyes (by omega)
  have k4 := of_decide_eq_false k4
  refine Wp.drop (S' := S) (by repeat (first | exact List.Sublist.refl _ | exact List.sublist_append_right _ _ | apply List.Sublist.cons)) ?_
  refine Wp.region ?_
  refine OWp.evs 1 rfl ?_
  refine OWp.nil ?_
  refine Wp.seq ?_
  refine Wp.seq (Wp.region ?_)
  refine OWp.evs 2 rfl ?_
  refine OWp.nil ?_
  refine Wp.cond rfl (fun _ => ?_) (fun c => nomatch c)
  refine Wp.seq (Wp.region ?_)
  refine OWp.evs 1 rfl ?_
  refine OWp.nil ?_
  refine Wp.ret ⟨trivial, _, ⟨_, _, rfl, rfl, rfl⟩, ?_⟩
  exact hno (by omega)
end
end Go.Proofs.C

namespace Go.Proofs.C
open Go.Lg
set_option maxRecDepth 100000

/-- Commands that go on, and a last one that doesn't. -/
def shape : List Hop → Prop
  | [] => False
  | [x] => x.kind ≠ 1
  | x :: y :: r => x.kind = 1 ∧ shape (y :: r)
instance shapeDec : (l : List Hop) → Decidable (shape l)
  | [] => by unfold shape; infer_instance
  | [x] => by unfold shape; infer_instance
  | x :: y :: r => by have := shapeDec (y :: r); unfold shape; infer_instance
theorem shape_iff : ∀ (l : List Hop), shape l ↔ 0 < l.length ∧ ∀ i (h : i < l.length), (l[i].kind = 1 ↔ i < l.length - 1)
  | [] => by simp [shape]
  | [x] => by simp [shape]
  | x :: y :: r => by
    have ih := shape_iff (y :: r)
    simp only [shape]
    constructor
    · rintro ⟨hx, hs⟩
      refine ⟨by simp, fun i h => ?_⟩
      cases i with
      | zero => simp [hx]
      | succ i =>
        have := (ih.1 hs).2 i (by simpa using h)
        simp only [List.getElem_cons_succ, List.length_cons] at this ⊢
        rw [this]; omega
    · rintro ⟨_, hs⟩
      refine ⟨by have := hs 0 (by simp); simpa using this, ih.2 ⟨by simp, fun i h => ?_⟩⟩
      have := hs (i + 1) (by simpa using h)
      simp only [List.getElem_cons_succ, List.length_cons] at this ⊢
      rw [this]; omega

def pathE (l : List Hop) : Int := if ∀ x ∈ l, hopP x then (if shape l ∧ l.length ≤ 5 then 0 else 4) else 70
theorem pathE_bad {l : List Hop} {x : Hop} (h : x ∈ l) (hx : ¬ hopP x) : pathE l = 70 := if_neg fun e => hx (e x h)
theorem pathE_good {l : List Hop} (h : ∀ x ∈ l, hopP x) : pathE l = if shape l ∧ l.length ≤ 5 then 0 else 4 := if_pos h

theorem hop_flat (l : List Hop) : ∀ x ∈ l, (Hop.cells x).length = 5 := fun _ _ => rfl

section
variable {B : Nat} {S R : Ents} {Q : Value → Ents → Prop}

theorem path1C {x : Hop} (h : Q (.bool (decide (¬ hopP x))) S) : CallWp Try.prog B 38 #[.agg x.cells.toArray] Q S := by
  refine CallWp.enter (args := [_]) Try.func38 rfl Try.ntmps38 rfl ?_
  refine Wp.seq (Wp.region ?_)
  refine OWp.step rfl (Step.box rfl rfl rfl ?_); intro L1 hBL1 hLL1
  refine OWp.evs 1 rfl ?_
  refine OWp.nil ?_
  refine Wp.seq (Wp.region ?_)
  first | refine OWp.load (List.Mem.head _) rfl rfl rfl rfl rfl ?_ | refine OWp.load (List.Mem.tail _ (List.Mem.head _)) rfl rfl rfl rfl rfl ?_ | refine OWp.load (List.Mem.tail _ (List.Mem.tail _ (List.Mem.head _))) rfl rfl rfl rfl rfl ?_ | refine OWp.load (List.Mem.tail _ (List.Mem.tail _ (List.Mem.tail _ (List.Mem.head _)))) rfl rfl rfl rfl rfl ?_ | refine OWp.load (List.Mem.tail _ (List.Mem.tail _ (List.Mem.tail _ (List.Mem.tail _ (List.Mem.head _))))) rfl rfl rfl rfl rfl ?_ | refine OWp.load (List.Mem.tail _ (List.Mem.tail _ (List.Mem.tail _ (List.Mem.tail _ (List.Mem.tail _ (List.Mem.head _)))))) rfl rfl rfl rfl rfl ?_
  refine OWp.step rfl (Step.call rfl rfl rfl rfl rfl rfl ((checkC (x := x) ?_)))
  by_cases hp : hopP x
  · skip
    rw [hopE_yes hp]
    rw [decide_eq_false (by simpa using hp)] at h
    refine OWp.evs 2 rfl ?_
    refine OWp.nil ?_
    refine Wp.drop (S' := S) (by repeat (first | exact List.Sublist.refl _ | exact List.sublist_append_right _ _ | apply List.Sublist.cons)) ?_
    refine Wp.ret ⟨trivial, _, ⟨_, _, rfl, rfl, rfl⟩, ?_⟩
    exact h
  rw [hopE_no hp]
  rw [decide_eq_true hp] at h
  refine OWp.evs 2 rfl ?_
  refine OWp.nil ?_
  refine Wp.drop (S' := S) (by repeat (first | exact List.Sublist.refl _ | exact List.sublist_append_right _ _ | apply List.Sublist.cons)) ?_
  refine Wp.ret ⟨trivial, _, ⟨_, _, rfl, rfl, rfl⟩, ?_⟩
  exact h
theorem path2C {x : Hop} (h : Q (.bool (decide (x.kind ≠ 1))) S) : CallWp Try.prog B 40 #[.agg x.cells.toArray] Q S := by
  refine CallWp.enter (args := [_]) Try.func40 rfl Try.ntmps40 rfl ?_
  refine Wp.seq (Wp.region ?_)
  refine OWp.step rfl (Step.box rfl rfl rfl ?_); intro L1 hBL1 hLL1
  refine OWp.evs 1 rfl ?_
  refine OWp.nil ?_
  refine Wp.seq (Wp.region ?_)
  refine OWp.evs 1 rfl ?_
  first | refine OWp.load (List.Mem.head _) rfl rfl rfl rfl rfl ?_ | refine OWp.load (List.Mem.tail _ (List.Mem.head _)) rfl rfl rfl rfl rfl ?_ | refine OWp.load (List.Mem.tail _ (List.Mem.tail _ (List.Mem.head _))) rfl rfl rfl rfl rfl ?_ | refine OWp.load (List.Mem.tail _ (List.Mem.tail _ (List.Mem.tail _ (List.Mem.head _)))) rfl rfl rfl rfl rfl ?_ | refine OWp.load (List.Mem.tail _ (List.Mem.tail _ (List.Mem.tail _ (List.Mem.tail _ (List.Mem.head _))))) rfl rfl rfl rfl rfl ?_ | refine OWp.load (List.Mem.tail _ (List.Mem.tail _ (List.Mem.tail _ (List.Mem.tail _ (List.Mem.tail _ (List.Mem.head _)))))) rfl rfl rfl rfl rfl ?_
  refine OWp.evs 2 rfl ?_
  refine OWp.nil ?_
  refine Wp.drop (S' := S) (by repeat (first | exact List.Sublist.refl _ | exact List.sublist_append_right _ _ | apply List.Sublist.cons)) ?_
  refine Wp.ret ⟨trivial, _, ⟨_, _, rfl, rfl, rfl⟩, ?_⟩
  rw [decide_not] at h
  exact h
theorem hopIndex {v : Value} {n : Nat} {l : List Hop} {g : FuncId} {f : Hop → Bool} (hc : callable Try.prog g = true) (hl : Reads S 5 v n (l.flatMap Hop.cells)) (hn : l.length = n) (hm : n ≤ lim)
    (hf : ∀ x ∈ l, ∀ Q' : Value → Ents → Prop, Q' (.bool (f x)) S → CallWp Try.prog B g #[.agg x.cells.toArray] Q' S)
    (h0 : (∀ x ∈ l, f x = false) → Q (.int .i64 (-1)) S)
    (h1 : ∀ j (hj : j < l.length), (∀ i (hi : i < j), f l[i] = false) → f l[j] = true → Q (.int .i64 (j : Int)) S) :
    CallWp Try.prog B 39 #[v, .func (.func g) #[] #[]] Q S := by
  obtain ⟨aa, ac, rfl⟩ := hl.form
  subst hn
  unfold lim at hm
  refine CallWp.enter (args := [_, _]) Try.func39 rfl Try.ntmps39 rfl ?_
  refine Wp.seq (Wp.region ?_)
  refine OWp.evs 1 rfl ?_
  refine OWp.nil ?_
  refine Wp.seq ?_
  refine Wp.seq (Wp.region ?_)
  refine OWp.evs 3 rfl ?_
  refine OWp.nil ?_
  refine Wp.block ?_
  refine Wp.loopS (α := Nat) (fun i => l.length - i) (fun i => [(8, .int .i64 (i : Int)), (7, .int .i64 (l.length : Int)), (0, .slice aa l.length ac), (1, .func (.func g) #[] #[])]) (fun _ => S) (fun i => i ≤ l.length ∧ ∀ k (hk : k < l.length), k < i → f l[k] = false) 0 ?_ (.refl _) ⟨Nat.zero_le _, fun _ _ h => by omega⟩ ?_
  · exact .cons rfl (.cons rfl (.cons rfl (.cons rfl (.nil _))))
  rintro i ⟨hi, he⟩
  refine Wp.seq (Wp.region ?_)
  refine OWp.evs 1 rfl ?_
  refine OWp.nil ?_
  refine Wp.seq ?_
  refine Wp.cond rfl (fun h2 => ?_) (fun h2 => ?_)
  · have h2 := of_decide_eq_true h2
    have hlt : i < l.length := by omega
    obtain ⟨b, o, cap', l', e, fz, hv, hm', hat⟩ := hl.elem (sz := 5) (hop_flat l) (by omega)
    cases hv
    refine Wp.skip ?_
    refine Wp.seq ?_
    refine Wp.block ?_
    refine Wp.seq (Wp.region ?_)
    refine OWp.evs 2 rfl ?_
    refine OWp.nil ?_
    refine Wp.seq (Wp.region ?_)
    refine OWp.evs 3 rfl ?_
    refine OWp.g rfl rfl (Gives.indexAddrSlice (i) rfl rfl rfl rfl rfl rfl (by omega)) ?_
    refine OWp.load (hm') rfl rfl rfl rfl (partAt_agg (hat i hlt) rfl rfl rfl) ?_
    refine OWp.step rfl (Step.call rfl rfl rfl rfl rfl hc (hf l[i] (List.getElem_mem hlt) _ ?_))
    generalize hb : f l[i] = b
    cases b
    · skip
      refine OWp.nil ?_
      refine Wp.cond rfl (fun c => nomatch c) (fun _ => ?_)
      refine Wp.skip ?_
      refine Wp.region ?_
      refine OWp.evs 2 rfl ?_
      refine OWp.nil ?_
      refine ⟨i + 1, by omega, ⟨by omega, fun k hk hki => ?_⟩, ?_, .refl _⟩
      · by_cases e : k = i
        · subst e; exact hb
        · exact he k hk (by omega)
      · exact .cons' rfl (int_eq (by rw [i64_id] <;> omega)) (.cons rfl (.cons rfl (.cons rfl (.nil _))))
    refine OWp.nil ?_
    refine Wp.cond rfl (fun _ => ?_) (fun c => nomatch c)
    refine Wp.seq (Wp.region ?_)
    refine OWp.evs 2 rfl ?_
    refine OWp.nil ?_
    refine Wp.ret ⟨trivial, _, ⟨_, _, rfl, rfl, rfl⟩, ?_⟩
    exact h1 i hlt (fun k hk => he k (by omega) hk) hb
  have h2 := of_decide_eq_false h2
  refine Wp.exit ?_
  refine Wp.seq (Wp.region ?_)
  refine OWp.evs 1 rfl ?_
  refine OWp.nil ?_
  refine Wp.ret ⟨trivial, _, ⟨_, _, rfl, rfl, rfl⟩, ?_⟩
  refine h0 fun x hx => ?_
  obtain ⟨k, hk, rfl⟩ := List.mem_iff_getElem.1 hx
  exact he k hk (by omega)
theorem hopContains {v : Value} {n : Nat} {l : List Hop} {g : FuncId} {f : Hop → Bool} (hc : callable Try.prog g = true) (hl : Reads S 5 v n (l.flatMap Hop.cells)) (hn : l.length = n) (hm : n ≤ lim)
    (hf : ∀ x ∈ l, ∀ (Q' : Value → Ents → Prop), Q' (.bool (f x)) S → CallWp Try.prog B g #[.agg x.cells.toArray] Q' S) (h : Q (.bool (l.any f)) S) :
    CallWp Try.prog B 37 #[v, .func (.func g) #[] #[]] Q S := by
  refine CallWp.enter (args := [_, _]) Try.func37 rfl Try.ntmps37 rfl ?_
  refine Wp.seq (Wp.region ?_)
  refine OWp.evs 1 rfl ?_
  refine OWp.nil ?_
  refine Wp.seq (Wp.region ?_)
  refine OWp.evs 2 rfl ?_
  refine OWp.step rfl (Step.call rfl rfl rfl rfl rfl rfl ((hopIndex hc hl hn hm hf ?_ ?_)))
  intro h0
  · skip
    refine OWp.evs 2 rfl ?_
    refine OWp.nil ?_
    refine Wp.ret ⟨trivial, _, ⟨_, _, rfl, rfl, rfl⟩, ?_⟩
    rw [show l.any f = false from List.any_eq_false.2 fun x hx => by simp [h0 x hx]] at h
    exact h
  intro j hj _ hj1
  refine OWp.evs 2 rfl ?_
  refine OWp.nil ?_
  refine Wp.ret ⟨trivial, _, ⟨_, _, rfl, rfl, rfl⟩, ?_⟩
  rw [show l.any f = true from List.any_eq_true.2 ⟨l[j], List.getElem_mem hj, hj1⟩] at h
  rw [decide_eq_true (by omega)]
  exact h
theorem pathC {v : Value} {n : Nat} {l : List Hop} (hl : Reads S 5 v n (l.flatMap Hop.cells)) (hn : l.length = n) (hm : n ≤ lim) (h : Q (.int .i64 (pathE l)) S) : CallWp Try.prog B 25 #[v] Q S := by
  obtain ⟨aa, ac, rfl⟩ := hl.form
  have hm' := hm
  unfold lim at hm'
  refine CallWp.enter (args := [_]) Try.func25 rfl Try.ntmps25 rfl ?_
  refine Wp.seq (Wp.region ?_)
  refine OWp.evs 1 rfl ?_
  refine OWp.nil ?_
  refine Wp.seq ?_
  refine Wp.seq (Wp.region ?_)
  refine OWp.evs 1 rfl ?_
  refine OWp.step rfl (Step.call rfl rfl rfl rfl rfl rfl ((hopContains (f := fun x => decide (¬ hopP x)) rfl hl hn hm (fun x _ Q' hq => path1C hq) ?_)))
  generalize hb : l.any (fun x => decide (¬ hopP x)) = b
  cases b
  · skip
    refine OWp.nil ?_
    refine Wp.cond rfl (fun c => nomatch c) (fun _ => ?_)
    have hg : ∀ x ∈ l, hopP x := fun x hx => by
      have := List.any_eq_false.1 hb x hx
      simpa using this
    rw [pathE_good hg] at h
    refine Wp.skip ?_
    refine Wp.seq (Wp.region ?_)
    refine OWp.evs 1 rfl ?_
    refine OWp.step rfl (Step.call rfl rfl rfl rfl rfl rfl ((hopIndex (f := fun x => decide (x.kind ≠ 1)) rfl hl hn hm (fun x _ Q' hq => path2C hq) ?_ ?_)))
    intro h0
    · skip
      refine OWp.evs 1 rfl ?_
      refine OWp.nil ?_
      refine Wp.seq ?_
      refine Wp.seq (Wp.region ?_)
      refine OWp.evs 3 rfl ?_
      refine OWp.evs 11 rfl ?_
      refine OWp.nil ?_
      refine Wp.cond rfl (fun _ => ?_) (fun c => nomatch c)
      refine Wp.seq (Wp.region ?_)
      refine OWp.evs 1 rfl ?_
      refine OWp.nil ?_
      refine Wp.ret ⟨trivial, _, ⟨_, _, rfl, rfl, rfl⟩, ?_⟩
      have hs : ¬ shape l := fun hs => by
        obtain ⟨hp, hs⟩ := (shape_iff l).1 hs
        have := hs (l.length - 1) (by omega)
        have h2 := h0 l[l.length - 1] (List.getElem_mem _)
        have h2 : l[l.length - 1].kind = 1 := by simpa using h2
        omega
      rw [if_neg (fun e => hs e.1)] at h
      exact h
    intro j hj hj0 hj1
    refine OWp.evs 1 rfl ?_
    refine OWp.nil ?_
    refine Wp.seq ?_
    refine Wp.seq (Wp.region ?_)
    refine OWp.evs 3 rfl ?_
    refine OWp.part 10 rfl (fun cc1 => absurd (of_decide_eq_true cc1) (by omega)) (fun cc1 => ?_)
    have cc1 := of_decide_eq_false cc1
    refine OWp.evs 7 rfl ?_
    refine OWp.part 17 rfl (fun e1 => ?_) (fun e1 => ?_)
    · have e1 := ndT e1
      refine OWp.evs 4 rfl ?_
      refine OWp.nil ?_
      refine Wp.cond rfl (fun _ => ?_) (fun c => nomatch c)
      refine Wp.seq (Wp.region ?_)
      refine OWp.evs 1 rfl ?_
      refine OWp.nil ?_
      refine Wp.ret ⟨trivial, _, ⟨_, _, rfl, rfl, rfl⟩, ?_⟩
      rw [i64_id (by omega) (by omega)] at e1
      rw [if_neg (fun e => by
        obtain ⟨hp, hs⟩ := (shape_iff l).1 e.1
        have h2 : l[j].kind ≠ 1 := by simpa using hj1
        have := hs j hj
        omega)] at h
      exact h
    have e1 := ndF e1
    rw [i64_id (by omega) (by omega)] at e1
    have hs : shape l := (shape_iff l).2 ⟨by omega, fun i hi => by
      by_cases e : i = j
      · subst e
        have h2 : l[i].kind ≠ 1 := by simpa using hj1
        constructor
        · intro h; exact absurd h h2
        · intro h; omega
      · have h2 := hj0 i (by omega)
        have h2 : l[i].kind = 1 := by simpa using h2
        constructor
        · intro _; omega
        · intro _; exact h2⟩
    refine OWp.evs 4 rfl ?_
    refine OWp.nil ?_
    refine Wp.cond rfl (fun e2 => ?_) (fun e2 => ?_)
    · have e2 := of_decide_eq_true e2
      refine Wp.seq (Wp.region ?_)
      refine OWp.evs 1 rfl ?_
      refine OWp.nil ?_
      refine Wp.ret ⟨trivial, _, ⟨_, _, rfl, rfl, rfl⟩, ?_⟩
      rw [if_neg (fun e => by omega)] at h
      exact h
    have e2 := of_decide_eq_false e2
    refine Wp.skip ?_
    refine Wp.seq (Wp.region ?_)
    refine OWp.evs 1 rfl ?_
    refine OWp.nil ?_
    refine Wp.ret ⟨trivial, _, ⟨_, _, rfl, rfl, rfl⟩, ?_⟩
    rw [if_pos ⟨hs, by omega⟩] at h
    exact h
  refine OWp.nil ?_
  refine Wp.cond rfl (fun _ => ?_) (fun c => nomatch c)
  refine Wp.seq (Wp.region ?_)
  refine OWp.evs 1 rfl ?_
  refine OWp.nil ?_
  refine Wp.ret ⟨trivial, _, ⟨_, _, rfl, rfl, rfl⟩, ?_⟩
  obtain ⟨x, hx, hx2⟩ := List.any_eq_true.1 hb
  rw [pathE_bad hx (of_decide_eq_true hx2)] at h
  exact h
end
end Go.Proofs.C

namespace Go.Proofs.C

/-- The table of a mean. -/
def tab (mean : Nat) : Nat → Nat
  | 0 => 4294967296
  | i + 1 => tab mean i * mean / (mean + 1)
/-- How many of the table's numbers behind the first are above a word. -/
def dl (mean u : Nat) : Nat → Nat
  | 0 => 0
  | m + 1 => dl mean u m + (if u < tab mean (m + 1) then 1 else 0)

theorem tab_step (m i : Nat) : tab m (i + 1) ≤ tab m i := by
  show tab m i * m / (m + 1) ≤ tab m i
  have : tab m i * m ≤ tab m i * (m + 1) := Nat.mul_le_mul_left _ (by omega)
  exact Nat.div_le_of_le_mul (by rw [Nat.mul_comm]; rw [Nat.mul_comm] at this; rw [Nat.mul_comm (m + 1)]; omega)
theorem tab_anti (m : Nat) {i j : Nat} (h : i ≤ j) : tab m j ≤ tab m i := by
  induction h with
  | refl => exact Nat.le_refl _
  | step _ ih => exact Nat.le_trans (tab_step m _) ih
theorem tab_le (m i : Nat) : tab m i ≤ 4294967296 := tab_anti m (Nat.zero_le i)
theorem tab_mean (m : Nat) : ∀ i, tab m i ≤ tab (m + 1) i
  | 0 => Nat.le_refl _
  | i + 1 => by
    have ih := tab_mean m i
    show tab m i * m / (m + 1) ≤ tab (m + 1) i * (m + 1) / (m + 1 + 1)
    generalize tab m i = x at *
    generalize tab (m + 1) i = y at *
    rw [Nat.le_div_iff_mul_le (by omega)]
    have h1 : x * m / (m + 1) * (m + 1) ≤ x * m := Nat.div_mul_le_self _ _
    have h2 : x * m / (m + 1) ≤ x := by
      exact Nat.div_le_of_le_mul (by rw [Nat.mul_comm (m + 1)]; exact Nat.mul_le_mul_left _ (by omega))
    have h3 : x * m / (m + 1) * (m + 1 + 1) = x * m / (m + 1) * (m + 1) + x * m / (m + 1) := by rw [Nat.mul_succ]
    have h4 : x * (m + 1) = x * m + x := by rw [Nat.mul_succ]
    have h5 : x * (m + 1) ≤ y * (m + 1) := Nat.mul_le_mul_right _ ih
    omega

theorem dl_le (m u : Nat) : ∀ k, dl m u k ≤ k
  | 0 => Nat.le_refl _
  | k + 1 => by have := dl_le m u k; simp only [dl]; split <;> omega
theorem dl_all {m u : Nat} : ∀ {k : Nat}, (∀ i, i < k → u < tab m (i + 1)) → dl m u k = k
  | 0, _ => rfl
  | k + 1, h => by
    have := dl_all (m := m) (u := u) (k := k) fun i hi => h i (by omega)
    simp only [dl, this, if_pos (h k (by omega))]
theorem dl_cut {m u j : Nat} : ∀ {k : Nat}, j ≤ k → (∀ i, i < j → u < tab m (i + 1)) → (∀ i, j ≤ i → i < k → tab m (i + 1) ≤ u) → dl m u k = j
  | 0, hj, _, _ => by simp only [dl]; omega
  | k + 1, hj, h1, h2 => by
    by_cases e : j = k + 1
    · subst e; exact dl_all h1
    · have := dl_cut (m := m) (u := u) (j := j) (k := k) (by omega) h1 fun i hi hk => h2 i hi (by omega)
      have h3 := h2 k (by omega) (by omega)
      simp only [dl, this, if_neg (by omega : ¬ u < tab m (k + 1))]; omega
theorem dl_word {m u v : Nat} (h : u ≤ v) : ∀ k, dl m v k ≤ dl m u k
  | 0 => Nat.le_refl _
  | k + 1 => by
    have := dl_word (m := m) h k
    simp only [dl]
    split <;> split <;> omega
theorem dl_most (m u k : Nat) : dl m u k ≤ dl m u (k + 1) := by simp only [dl]; omega
theorem dl_mean (m u : Nat) : ∀ k, dl m u k ≤ dl (m + 1) u k
  | 0 => Nat.le_refl _
  | k + 1 => by
    have := dl_mean m u k
    have := tab_mean m (k + 1)
    simp only [dl]
    split <;> split <;> omega

def tabs (mean : Nat) (k : Nat) : List Nat := (List.range k).map (tab mean)
theorem tabs_len (m k : Nat) : (tabs m k).length = k := by simp [tabs]
theorem tabs_get {m k i : Nat} (h : i < k) : (tabs m k)[i]? = some (tab m i) := by simp [tabs, h]
theorem tabs_snoc (m k : Nat) : tabs m (k + 1) = tabs m k ++ [tab m k] := by simp [tabs, List.range_succ]
end Go.Proofs.C

namespace Go.Proofs.C
open Go.Lg
set_option maxRecDepth 100000

def mayP (most : Int) (l : List Int) : Prop := 0 ≤ most ∧ most ≤ 4096 ∧ ∀ m ∈ l, 0 ≤ m ∧ m ≤ 4096
instance (most : Int) (l : List Int) : Decidable (mayP most l) := by unfold mayP; infer_instance

theorem mayP_one (most mean : Int) : mayP most [mean] ↔ 0 ≤ most ∧ most ≤ 4096 ∧ 0 ≤ mean ∧ mean ≤ 4096 := by simp [mayP]

theorem mid_id {i j : Nat} (h : i + j ≤ 281474976710656) : IntKind.i64.wrap ((IntKind.u64.wrap (IntKind.i64.wrap ((i : Int) + (j : Int)))).fdiv (2 ^ (min 1 IntKind.u64.bits))) = (((i + j) / 2 : Nat) : Int) := by
  have e : (2 : Int) ^ (min 1 IntKind.u64.bits) = 2 := by decide
  rw [e, i64_id (x := (i : Int) + (j : Int)) (by omega) (by omega), IntKind.wrap_u64, Int.fdiv_eq_ediv_of_nonneg _ (by omega), i64_id (by omega) (by omega)]
  omega

theorem table_step {m x : Nat} (hx : x ≤ 4294967296) (hm : m ≤ 4096) : IntKind.i64.wrap ((IntKind.i64.wrap ((x : Int) * (m : Int))).tdiv (IntKind.i64.wrap ((m : Int) + 1))) = ((x * m / (m + 1) : Nat) : Int) := by
  have h1 : x * m ≤ 4294967296 * 4096 := Nat.mul_le_mul hx hm
  have e : (x : Int) * (m : Int) = ((x * m : Nat) : Int) := by simp
  rw [e, i64_id (x := ((x * m : Nat) : Int)) (by omega) (by omega), i64_id (x := (m : Int) + 1) (by omega) (by omega), Int.tdiv_eq_ediv_of_nonneg (by omega)]
  rw [show (m : Int) + 1 = ((m + 1 : Nat) : Int) by omega, ← Int.natCast_ediv]
  have h2 : x * m / (m + 1) ≤ x * m := Nat.div_le_self _ _
  generalize x * m / (m + 1) = z at h2 ⊢
  rw [i64_id (by omega) (by omega)]

theorem tabs_set {m i n : Nat} (h : i + 1 ≤ n) : (tabs m (i + 1) ++ List.replicate (n - i) 0).set (i + 1) (tab m (i + 1)) = tabs m (i + 2) ++ List.replicate (n - (i + 1)) 0 := by
  obtain ⟨r, rfl⟩ : ∃ r, n = i + (r + 1) := ⟨n - i - 1, by omega⟩
  rw [List.set_append_right _ _ (by simp [tabs])]
  simp only [tabs_len, Nat.sub_self, Nat.add_sub_cancel_left, List.replicate_succ, List.set_cons_zero]
  rw [tabs_snoc m (i + 1), List.append_assoc, show i + (r + 1) - (i + 1) = r by omega]
  rfl

theorem tabs_getD {m i n : Nat} {r : List Nat} (h : i < n) : (tabs m n ++ r).getD i 0 = tab m i := by
  rw [List.getD_eq_getElem?_getD, List.getElem?_append_left (by rw [tabs_len]; exact h), tabs_get h]
  rfl

section
variable {B : Nat} {S R : Ents} {Q : Value → Ents → Prop}

theorem mayC {most : Int} {v : Value} {n : Nat} {l : List Int} (hl : Reads S 1 v n (zi l)) (hn : n ≤ lim) (h : Q (.bool (decide (mayP most l))) S) :
    CallWp Try.prog B 49 #[.int .i64 most, v] Q S := by
  obtain ⟨aa, ac, rfl⟩ := hl.form
  have e1 : l.length = n := by have := hl.1; rw [zi_length] at this; omega
  unfold lim at hn
  refine CallWp.enter (args := [_, _]) Try.func49 rfl Try.ntmps49 rfl ?_
  refine Wp.seq (Wp.region ?_)
  refine OWp.evs 1 rfl ?_
  refine OWp.nil ?_
  refine Wp.seq ?_
  refine Wp.seq (Wp.region ?_)
  refine OWp.evs 3 rfl ?_
  refine OWp.part 9 rfl (fun h1 => ?_) (fun h1 => ?_)
  · have h1 := of_decide_eq_true h1
    refine OWp.evs 3 rfl ?_
    refine OWp.nil ?_
    refine Wp.cond rfl (fun _ => ?_) (fun c => nomatch c)
    refine Wp.seq (Wp.region ?_)
    refine OWp.evs 1 rfl ?_
    refine OWp.nil ?_
    refine Wp.ret ⟨trivial, _, ⟨_, _, rfl, rfl, rfl⟩, ?_⟩
    rw [decide_eq_false (fun e => by unfold mayP at e; omega)] at h; exact h
  have h1 := of_decide_eq_false h1
  refine OWp.evs 3 rfl ?_
  refine OWp.nil ?_
  refine Wp.cond rfl (fun h2 => ?_) (fun h2 => ?_)
  · have h2 := of_decide_eq_true h2
    refine Wp.seq (Wp.region ?_)
    refine OWp.evs 1 rfl ?_
    refine OWp.nil ?_
    refine Wp.ret ⟨trivial, _, ⟨_, _, rfl, rfl, rfl⟩, ?_⟩
    rw [decide_eq_false (fun e => by unfold mayP at e; omega)] at h; exact h
  have h2 := of_decide_eq_false h2
  refine Wp.skip ?_
  refine Wp.seq ?_
  refine Wp.seq (Wp.region ?_)
  refine OWp.evs 3 rfl ?_
  refine OWp.nil ?_
  refine Wp.block ?_
  refine Wp.loopS (α := Nat) (fun i => n - i) (fun i => [(15, .int .i64 (i : Int)), (14, .int .i64 (n : Int)), (13, .slice aa n ac)]) (fun _ => S) (fun i => i ≤ n ∧ ∀ m ∈ l.take i, 0 ≤ m ∧ m ≤ 4096) 0 ?_ (.refl _) ⟨Nat.zero_le _, by simp⟩ ?_
  · exact .cons rfl (.cons rfl (.cons rfl (.nil _)))
  rintro i ⟨hi, he⟩
  refine Wp.seq (Wp.region ?_)
  refine OWp.evs 1 rfl ?_
  refine OWp.nil ?_
  refine Wp.seq ?_
  refine Wp.cond rfl (fun h3 => ?_) (fun h3 => ?_)
  · have h3 := of_decide_eq_true h3
    have hlt : i < n := by omega
    obtain ⟨b1, o1, c1, l1, t1, f1, hv1, hm1, _, hg1⟩ := hl.get1 (by omega)
    cases hv1
    have x1 : l[i]? = some l[i] := by simp
    refine Wp.skip ?_
    refine Wp.seq ?_
    refine Wp.block ?_
    refine Wp.seq (Wp.region ?_)
    refine OWp.g rfl rfl (Gives.indexAddrSlice (i) rfl rfl rfl rfl rfl rfl (by omega)) ?_
    refine OWp.load (hm1) rfl rfl rfl rfl ((hg1 i hlt).trans (zi_get x1)) ?_
    refine OWp.evs 1 rfl ?_
    refine OWp.nil ?_
    refine Wp.seq (Wp.region ?_)
    refine OWp.evs 3 rfl ?_
    refine OWp.part 21 rfl (fun h4 => ?_) (fun h4 => ?_)
    · have h4 := of_decide_eq_true h4
      refine OWp.evs 3 rfl ?_
      refine OWp.nil ?_
      refine Wp.cond rfl (fun _ => ?_) (fun c => nomatch c)
      refine Wp.seq (Wp.region ?_)
      refine OWp.evs 1 rfl ?_
      refine OWp.nil ?_
      refine Wp.ret ⟨trivial, _, ⟨_, _, rfl, rfl, rfl⟩, ?_⟩
      rw [decide_eq_false (fun e => by have := e.2.2 l[i] (by simp); omega)] at h; exact h
    have h4 := of_decide_eq_false h4
    refine OWp.evs 3 rfl ?_
    refine OWp.nil ?_
    refine Wp.cond rfl (fun h5 => ?_) (fun h5 => ?_)
    · have h5 := of_decide_eq_true h5
      refine Wp.seq (Wp.region ?_)
      refine OWp.evs 1 rfl ?_
      refine OWp.nil ?_
      refine Wp.ret ⟨trivial, _, ⟨_, _, rfl, rfl, rfl⟩, ?_⟩
      rw [decide_eq_false (fun e => by have := e.2.2 l[i] (by simp); omega)] at h; exact h
    have h5 := of_decide_eq_false h5
    refine Wp.skip ?_
    refine Wp.region ?_
    refine OWp.evs 2 rfl ?_
    refine OWp.nil ?_
    refine ⟨i + 1, by omega, ⟨by omega, ?_⟩, ?_, .refl _⟩
    · intro m hm
      rw [List.take_add_one, x1] at hm
      rcases List.mem_append.1 hm with hm | hm
      · exact he m hm
      · simp at hm; subst hm; omega
    · exact .cons' rfl (int_eq (by rw [i64_id] <;> omega)) (.cons rfl (.cons rfl (.nil _)))
  have h3 := of_decide_eq_false h3
  refine Wp.exit ?_
  refine Wp.seq (Wp.region ?_)
  refine OWp.evs 1 rfl ?_
  refine OWp.nil ?_
  refine Wp.ret ⟨trivial, _, ⟨_, _, rfl, rfl, rfl⟩, ?_⟩
  rw [decide_eq_true ⟨by omega, by omega, by rw [List.take_of_length_le (by omega)] at he; exact he⟩] at h; exact h
theorem rmayC {most mean : Int} (h : Q (.bool (decide (mayP most [mean]))) S) : CallWp Try.prog B 52 #[.int .i64 mean, .int .i64 most] Q S := by
  have h : Q (.bool (decide (0 ≤ most ∧ most ≤ 4096 ∧ 0 ≤ mean ∧ mean ≤ 4096))) S := by rw [← decide_eq_decide.2 (mayP_one most mean)]; exact h
  refine CallWp.enter (args := [_, _]) Try.func52 rfl Try.ntmps52 rfl ?_
  refine Wp.seq (Wp.region ?_)
  refine OWp.evs 1 rfl ?_
  refine OWp.nil ?_
  refine Wp.seq (Wp.region ?_)
  refine OWp.evs 3 rfl ?_
  refine OWp.part 7 rfl (fun h1 => ?_) (fun h1 => ?_)
  · have h1 := of_decide_eq_true h1
    refine OWp.evs 4 rfl ?_
    refine OWp.part 11 rfl (fun h2 => ?_) (fun h2 => ?_)
    · have h2 := of_decide_eq_true h2
      refine OWp.evs 4 rfl ?_
      refine OWp.part 15 rfl (fun h3 => ?_) (fun h3 => ?_)
      · have h3 := of_decide_eq_true h3
        refine OWp.evs 4 rfl ?_
        refine OWp.nil ?_
        refine Wp.ret ⟨trivial, _, ⟨_, _, rfl, rfl, rfl⟩, ?_⟩
        rw [decide_eq_decide.2 (show (0 ≤ most ∧ most ≤ 4096 ∧ 0 ≤ mean ∧ mean ≤ 4096) ↔ most ≤ 4096 by omega)] at h; exact h
      have h3 := of_decide_eq_false h3
      refine OWp.evs 4 rfl ?_
      refine OWp.nil ?_
      refine Wp.ret ⟨trivial, _, ⟨_, _, rfl, rfl, rfl⟩, ?_⟩
      rw [decide_eq_false (by omega)] at h; exact h
    have h2 := of_decide_eq_false h2
    refine OWp.evs 8 rfl ?_
    refine OWp.nil ?_
    refine Wp.ret ⟨trivial, _, ⟨_, _, rfl, rfl, rfl⟩, ?_⟩
    rw [decide_eq_false (by omega)] at h; exact h
  have h1 := of_decide_eq_false h1
  refine OWp.evs 12 rfl ?_
  refine OWp.nil ?_
  refine Wp.ret ⟨trivial, _, ⟨_, _, rfl, rfl, rfl⟩, ?_⟩
  rw [decide_eq_false (by omega)] at h; exact h
theorem table_no {most mean : Int} (hm : ¬ mayP most [mean]) (h : Q (.tuple #[.slice none 0 0, .int .i64 1]) S) : CallWp Try.prog B 43 #[.int .i64 mean, .int .i64 most] Q S := by
  refine CallWp.enter (args := [_, _]) Try.func43 rfl Try.ntmps43 rfl ?_
  refine Wp.seq (Wp.region ?_)
  refine OWp.evs 2 rfl ?_
  refine OWp.nil ?_
  refine Wp.seq ?_
  refine Wp.seq (Wp.region ?_)
  refine OWp.evs 2 rfl ?_
  refine OWp.step rfl (Step.buildSlice rfl rfl rfl ?_); intro L hBL hLL
  refine OWp.step rfl (Step.call rfl rfl rfl rfl rfl rfl ((mayC (l := [mean]) (Reads.row (k := 1) (sz := 1) (.head _) (Nat.le_refl 1)) (by decide) ?_)))
  rw [decide_eq_false hm]
  refine OWp.evs 1 rfl ?_
  refine OWp.nil ?_
  refine Wp.cond rfl (fun _ => ?_) (fun c => nomatch c)
  refine Wp.drop (S' := S) (by repeat (first | exact List.Sublist.refl _ | exact List.sublist_append_right _ _ | apply List.Sublist.cons)) ?_
  refine Wp.seq (Wp.region ?_)
  refine OWp.evs 2 rfl ?_
  refine OWp.nil ?_
  refine Wp.ret ⟨trivial, _, ⟨_, _, rfl, rfl, _, _, rfl, rfl, rfl⟩, ?_⟩
  exact h
theorem rtable_no {most mean : Int} (hm : ¬ mayP most [mean]) (h : Q (.tuple #[.slice none 0 0, .int .i64 1]) S) : CallWp Try.prog B 46 #[.int .i64 mean, .int .i64 most] Q S := by
  refine CallWp.enter (args := [_, _]) Try.func46 rfl Try.ntmps46 rfl ?_
  refine Wp.seq (Wp.region ?_)
  refine OWp.evs 2 rfl ?_
  refine OWp.nil ?_
  refine Wp.seq ?_
  refine Wp.seq (Wp.region ?_)
  refine OWp.evs 2 rfl ?_
  refine OWp.step rfl (Step.call rfl rfl rfl rfl rfl rfl ((rmayC ?_)))
  rw [decide_eq_false hm]
  refine OWp.evs 1 rfl ?_
  refine OWp.nil ?_
  refine Wp.cond rfl (fun _ => ?_) (fun c => nomatch c)
  refine Wp.seq (Wp.region ?_)
  refine OWp.evs 2 rfl ?_
  refine OWp.nil ?_
  refine Wp.ret ⟨trivial, _, ⟨_, _, rfl, rfl, _, _, rfl, rfl, rfl⟩, ?_⟩
  exact h
theorem table_yes {most mean : Nat} (h1 : most ≤ 4096) (h2 : mean ≤ 4096)
    (h : ∀ L, B ≤ L → (∀ x ∈ S, x.1 < L) → Q (.tuple #[.slice (some ⟨L, 0, none⟩) (most + 1) (most + 1), .int .i64 0]) ((L, cel (ints (tabs mean (most + 1))) 3) :: S)) :
    CallWp Try.prog B 43 #[.int .i64 (mean : Int), .int .i64 (most : Int)] Q S := by
  refine CallWp.enter (args := [_, _]) Try.func43 rfl Try.ntmps43 rfl ?_
  refine Wp.seq (Wp.region ?_)
  refine OWp.evs 2 rfl ?_
  refine OWp.nil ?_
  refine Wp.seq ?_
  refine Wp.seq (Wp.region ?_)
  refine OWp.evs 2 rfl ?_
  refine OWp.step rfl (Step.buildSlice rfl rfl rfl ?_); intro L0 hBL0 hLL0
  refine OWp.step rfl (Step.call rfl rfl rfl rfl rfl rfl ((mayC (l := [(mean : Int)]) (Reads.row (k := 1) (sz := 1) (.head _) (Nat.le_refl 1)) (by decide) ?_)))
  rw [decide_eq_true ((mayP_one _ _).2 ⟨by omega, by omega, by omega, by omega⟩)]
  refine OWp.evs 1 rfl ?_
  refine OWp.nil ?_
  refine Wp.cond rfl (fun c => nomatch c) (fun _ => ?_)
  refine Wp.skip ?_
  refine Wp.seq (Wp.region ?_)
  refine OWp.evs 2 rfl ?_
  refine OWp.step rfl (Step.makeSlice (len := most + 1) (cap := most + 1) rfl rfl rfl rfl rfl rfl (by decide) (by show _ = some (Value.int .i64 ((most + 1 : Nat) : Int)); rw [← wrap_add1 most (by unfold lim; omega)]; rfl) (by show _ = some (Value.int .i64 ((most + 1 : Nat) : Int)); rw [← wrap_add1 most (by unfold lim; omega)]; rfl) (Nat.le_refl _) ?_ (by omega) ?_)
  · show 8 * (most + 1) ≤ _; omega
  intro L hBL hLL
  rw [show zeros (cellsOf (.int .i64 0)) (most + 1) = ints (List.replicate (most + 1) 0) from zeros_ints (most + 1)]
  refine OWp.evs 1 rfl ?_
  refine OWp.nil ?_
  refine Wp.seq (Wp.region ?_)
  refine OWp.evs 1 rfl ?_
  refine OWp.g rfl rfl (Gives.indexAddrSlice (0) rfl rfl rfl rfl rfl rfl (by omega)) ?_
  refine OWp.step rfl (Step.storeAs 0 (ints ((List.replicate (most + 1) 0).set 0 4294967296)) rfl rfl rfl rfl rfl (by assumption) rfl (Unfz.zero _) rfl (by rw [ints_length, List.length_replicate]; show 0 + 0 * 1 + 1 ≤ _; omega) (ints_set' (List.replicate (most + 1) 0) _ 0 4294967296 (by simp) (by show 0 + 0 * 1 = 0; omega)) rfl ?_)
  refine OWp.nil ?_
  refine Wp.seq ?_
  refine Wp.seq (Wp.region ?_)
  refine OWp.evs 2 rfl ?_
  refine OWp.nil ?_
  refine Wp.block ?_
  refine Wp.loopS (α := Nat) (fun i => most - i) (fun i => [(19, .int .i64 (i : Int)), (18, .int .i64 (most : Int)), (6, .slice (some ⟨L, 0, none⟩) (most + 1) (most + 1)), (0, .int .i64 (mean : Int))]) (fun i => (L, cel (ints (tabs mean (i + 1) ++ List.replicate (most - i) 0)) 3) :: (L0, cel [.int .i64 (mean : Int)] 3) :: S) (fun i => i ≤ most) 0 ?_ ?_ (Nat.zero_le _) ?_
  · exact .cons rfl (.cons rfl (.cons rfl (.cons rfl (.nil _))))
  · exact .refl _
  intro i hi
  have hlen : (tabs mean (i + 1) ++ List.replicate (most - i) 0).length = most + 1 := by simp [tabs]; omega
  refine Wp.seq (Wp.region ?_)
  refine OWp.evs 1 rfl ?_
  refine OWp.nil ?_
  refine Wp.seq ?_
  refine Wp.cond rfl (fun h3 => ?_) (fun h3 => ?_)
  · have h3 := of_decide_eq_true h3
    refine Wp.skip ?_
    refine Wp.seq ?_
    refine Wp.block ?_
    refine Wp.seq (Wp.region ?_)
    refine OWp.evs 2 rfl ?_
    refine OWp.nil ?_
    refine Wp.region ?_
    refine OWp.evs 5 rfl ?_
    refine OWp.g rfl rfl (Gives.indexAddrSlice (i) rfl rfl rfl rfl rfl rfl (by omega)) ?_
    refine OWp.load (.head _) rfl rfl rfl rfl (ints_part _ i (by omega)) ?_
    refine OWp.evs 4 rfl ?_
    refine OWp.g rfl rfl (Gives.quo rfl rfl rfl (by rw [i64_id] <;> omega)) ?_
    rw [tabs_getD (Nat.lt_succ_self i), table_step (tab_le _ _) h2]
    refine OWp.g rfl rfl (Gives.indexAddrSlice (i + 1) rfl rfl rfl rfl rfl (wrap_add1 i (by unfold lim; omega)) (by omega)) ?_
    refine OWp.step rfl (Step.storeAs 0 (ints (tabs mean (i + 2) ++ List.replicate (most - (i + 1)) 0)) rfl rfl rfl rfl rfl (by assumption) rfl (Unfz.zero _) rfl (by rw [ints_length, hlen]; show 0 + (i + 1) * 1 + 1 ≤ _; omega) (by rw [← tabs_set (by omega)]; exact ints_set' _ _ (i + 1) (tab mean (i + 1)) (by omega) (by show 0 + (i + 1) * 1 = i + 1; omega)) rfl ?_)
    refine OWp.nil ?_
    refine Wp.region ?_
    refine OWp.evs 2 rfl ?_
    refine OWp.nil ?_
    refine ⟨i + 1, by omega, by omega, ?_, .refl _⟩
    exact .cons' rfl (int_eq (wrap_add1 i (by unfold lim; omega))) (.cons rfl (.cons rfl (.cons rfl (.nil _))))
  have h3 := of_decide_eq_false h3
  obtain rfl : i = most := by omega
  rw [Nat.sub_self, List.replicate_zero, List.append_nil]
  refine Wp.exit ?_
  refine Wp.drop (S' := (L, cel (ints (tabs mean (i + 1))) 3) :: S) (.cons_cons _ (.cons _ (.refl _))) ?_
  refine Wp.seq (Wp.region ?_)
  refine OWp.evs 3 rfl ?_
  refine OWp.nil ?_
  refine Wp.ret ⟨trivial, _, ⟨_, _, rfl, rfl, _, _, rfl, rfl, rfl⟩, ?_⟩
  exact h L hBL (fun x hx => hLL x (List.mem_cons_of_mem _ hx))
end
end Go.Proofs.C

namespace Go.Proofs.C
open Go.Lg
set_option maxRecDepth 100000

section
variable {B : Nat} {S R : Ents} {Q : Value → Ents → Prop}

/-- sort.Search: the place behind which the answer turns. -/
theorem searchC {n : Nat} {g : FuncId} {cap : Array Value} {f : Nat → Bool} (hc : callable Try.prog g = true) (hn : n ≤ lim)
    (hf : ∀ i, i < n → ∀ Q' : Value → Ents → Prop, Q' (.bool (f i)) S → CallWp Try.prog B g ([Value.int .i64 (i : Int)] ++ cap.toList).toArray Q' S)
    (h : ∀ j, j ≤ n → (0 < j → f (j - 1) = false) → (j < n → f j = true) → Q (.int .i64 (j : Int)) S) :
    CallWp Try.prog B 57 #[.int .i64 (n : Int), .func (.func g) #[] cap] Q S := by
  unfold lim at hn
  refine CallWp.enter (args := [_, _]) Try.func57 rfl Try.ntmps57 rfl ?_
  refine Wp.seq (Wp.region ?_)
  refine OWp.evs 1 rfl ?_
  refine OWp.nil ?_
  refine Wp.seq (Wp.region ?_)
  refine OWp.evs 3 rfl ?_
  refine OWp.nil ?_
  refine Wp.seq ?_
  refine Wp.block ?_
  refine Wp.loopS (α := Nat × Nat) (fun x => x.2 - x.1) (fun x => [(5, .int .i64 (x.1 : Int)), (6, .int .i64 (x.2 : Int)), (1, .func (.func g) #[] cap)]) (fun _ => S) (fun x => x.1 ≤ x.2 ∧ x.2 ≤ n ∧ (0 < x.1 → f (x.1 - 1) = false) ∧ (x.2 < n → f x.2 = true)) (0, n) ?_ (.refl _) ⟨by simp, by simp, by simp, by simp⟩ ?_
  · exact .cons rfl (.cons rfl (.cons rfl (.nil _)))
  rintro ⟨i, j⟩ ⟨hij, hj, hi0, hj1⟩
  simp only at hij hj hi0 hj1 ⊢
  refine Wp.seq ?_
  refine Wp.seq (Wp.region ?_)
  refine OWp.evs 3 rfl ?_
  refine OWp.nil ?_
  refine Wp.cond rfl (fun h1 => ?_) (fun h1 => ?_)
  · have h1 := of_decide_eq_true h1
    refine Wp.skip ?_
    refine Wp.block ?_
    refine Wp.seq (Wp.region ?_)
    refine OWp.evs 7 rfl ?_
    refine OWp.nil ?_
    refine Wp.seq (Wp.region ?_)
    refine OWp.evs 2 rfl ?_
    refine OWp.step rfl (Step.call rfl rfl rfl rfl rfl hc ?_)
    rw [mid_id (by omega)]
    refine hf ((i + j) / 2) (by omega) _ ?_
    generalize hb : f ((i + j) / 2) = b
    cases b
    · skip
      refine OWp.evs 1 rfl ?_
      refine OWp.nil ?_
      refine Wp.cond rfl (fun _ => ?_) (fun c => nomatch c)
      refine Wp.region ?_
      refine OWp.evs 3 rfl ?_
      refine OWp.nil ?_
      refine ⟨((i + j) / 2 + 1, j), by simp only; omega, ⟨by simp only; omega, by simp only; omega, fun _ => ?_, hj1⟩, ?_, .refl _⟩
      · simpa using hb
      · exact .cons' rfl (int_eq (wrap_add1 _ (by unfold lim; omega))) (.cons rfl (.cons rfl (.nil _)))
    refine OWp.evs 1 rfl ?_
    refine OWp.nil ?_
    refine Wp.cond rfl (fun c => nomatch c) (fun _ => ?_)
    refine Wp.region ?_
    refine OWp.evs 2 rfl ?_
    refine OWp.nil ?_
    refine ⟨(i, (i + j) / 2), by simp only; omega, ⟨by simp only; omega, by simp only; omega, hi0, fun _ => hb⟩, ?_, .refl _⟩
    · exact .cons' rfl rfl (.cons rfl (.cons rfl (.nil _)))
  have h1 := of_decide_eq_false h1
  obtain rfl : i = j := by omega
  refine Wp.exit ?_
  refine Wp.seq (Wp.region ?_)
  refine OWp.evs 2 rfl ?_
  refine OWp.nil ?_
  refine Wp.ret ⟨trivial, _, ⟨_, _, rfl, rfl, rfl⟩, ?_⟩
  exact h i hj hi0 hj1
theorem of1C {L8 L5 L mean most i u cap : Nat} (h8 : (L8, cel [.slice (some ⟨L, 0, none⟩) (most + 1) cap] 93) ∈ S) (hL : (L, cel (ints (tabs mean (most + 1))) 3) ∈ S)
    (h5 : (L5, cel [.int .i64 (u : Int)] 3) ∈ S) (hi : i < most) (hm : most ≤ 4096) (h : Q (.bool (decide (tab mean (i + 1) ≤ u))) S) :
    CallWp Try.prog B 58 #[.int .i64 (i : Int), pt L8, pt L5] Q S := by
  refine CallWp.enter (args := [_, _, _]) Try.func58 rfl Try.ntmps58 rfl ?_
  refine Wp.seq (Wp.region ?_)
  refine OWp.evs 1 rfl ?_
  refine OWp.nil ?_
  refine Wp.seq (Wp.regionDraw [0, 1, 2, 3, 4, 5, 6, 7] [] rfl (by decide +kernel) ?_)
  refine DWp.load ((by repeat (first | exact h8 | apply List.mem_cons_of_mem | apply List.mem_append_right))) rfl rfl rfl rfl rfl rfl rfl ?_
  refine DWp.evs 2 rfl ?_
  refine DWp.g rfl rfl rfl rfl (Gives.indexAddrSlice (i + 1) rfl rfl rfl rfl rfl (wrap_add1 i (by unfold lim; omega)) (by omega)) ?_
  refine DWp.load ((by repeat (first | exact hL | apply List.mem_cons_of_mem | apply List.mem_append_right))) rfl rfl rfl rfl rfl rfl (by exact ints_part (tabs mean (most + 1)) (i + 1) (by rw [tabs_len]; omega)) ?_
  refine DWp.load ((by repeat (first | exact h5 | apply List.mem_cons_of_mem | apply List.mem_append_right))) rfl rfl rfl rfl rfl rfl rfl ?_
  refine DWp.evs 2 rfl ?_
  refine DWp.nil ?_
  refine Wp.ret ⟨trivial, _, ⟨_, _, rfl, rfl, rfl⟩, ?_⟩
  rw [show (tabs mean (most + 1)).getD (i + 1) 0 = tab mean (i + 1) by simp [tabs, hi]]
  rw [decide_eq_decide.2 (Int.ofNat_le)]
  exact h
def ofP (mean most u : Int) : Prop := mayP most [mean] ∧ 0 ≤ u ∧ u < 4294967296

theorem of_no {mean most u : Int} (hp : ¬ ofP mean most u) (h : Q (.tuple #[.int .i64 0, .int .i64 1]) S) : CallWp Try.prog B 56 #[.int .i64 mean, .int .i64 most, .int .i64 u] Q S := by
  unfold ofP at hp
  by_cases hm : mayP most [mean]
  · obtain ⟨m1, m2, m3, m4⟩ := (mayP_one _ _).1 hm
    obtain ⟨mean, rfl⟩ : ∃ m : Nat, mean = (m : Int) := ⟨mean.toNat, by omega⟩
    obtain ⟨most, rfl⟩ : ∃ m : Nat, most = (m : Int) := ⟨most.toNat, by omega⟩
    refine CallWp.enter (args := [_, _, _]) Try.func56 rfl Try.ntmps56 rfl ?_
    refine Wp.seq (Wp.region ?_)
    refine OWp.step rfl (Step.box rfl rfl rfl ?_); intro L5 hBL5 hLL5
    refine OWp.evs 2 rfl ?_
    refine OWp.nil ?_
    refine Wp.seq (Wp.region ?_)
    refine OWp.evs 2 rfl ?_
    refine OWp.step rfl (Step.call rfl rfl rfl rfl rfl rfl ((table_yes (by omega) (by omega) ?_)))
    intro L hBL hLL
    refine OWp.evs 3 rfl ?_
    refine OWp.step rfl (Step.alloc rfl rfl rfl ?_); intro L8 hBL8 hLL8
    refine OWp.step rfl (Step.store 0 rfl rfl rfl rfl rfl (by assumption) rfl (Nat.le_of_ble_eq_true rfl) (Unfz.zero _) rfl rfl ?_)
    refine OWp.evs 1 rfl ?_
    refine OWp.nil ?_
    refine Wp.seq ?_
    refine Wp.seq (Wp.region ?_)
    refine OWp.evs 3 rfl ?_
    first | refine OWp.load (List.Mem.head _) rfl rfl rfl rfl rfl ?_ | refine OWp.load (List.Mem.tail _ (List.Mem.head _)) rfl rfl rfl rfl rfl ?_ | refine OWp.load (List.Mem.tail _ (List.Mem.tail _ (List.Mem.head _))) rfl rfl rfl rfl rfl ?_ | refine OWp.load (List.Mem.tail _ (List.Mem.tail _ (List.Mem.tail _ (List.Mem.head _)))) rfl rfl rfl rfl rfl ?_ | refine OWp.load (List.Mem.tail _ (List.Mem.tail _ (List.Mem.tail _ (List.Mem.tail _ (List.Mem.head _))))) rfl rfl rfl rfl rfl ?_ | refine OWp.load (List.Mem.tail _ (List.Mem.tail _ (List.Mem.tail _ (List.Mem.tail _ (List.Mem.tail _ (List.Mem.head _)))))) rfl rfl rfl rfl rfl ?_
    refine OWp.evs 3 rfl ?_
    refine OWp.part 22 rfl (fun h1 => ?_) (fun h1 => ?_)
    · have h1 := of_decide_eq_true h1
      refine OWp.evs 3 rfl ?_
      refine OWp.nil ?_
      refine Wp.cond rfl (fun _ => ?_) (fun c => nomatch c)
      refine Wp.drop (S' := S) (by repeat (first | exact List.Sublist.refl _ | exact List.sublist_append_right _ _ | apply List.Sublist.cons)) ?_
      refine Wp.seq (Wp.region ?_)
      refine OWp.evs 2 rfl ?_
      refine OWp.nil ?_
      refine Wp.ret ⟨trivial, _, ⟨_, _, rfl, rfl, _, _, rfl, rfl, rfl⟩, ?_⟩
      exact h
    have h1 := of_decide_eq_false h1
    first | refine OWp.load (List.Mem.head _) rfl rfl rfl rfl rfl ?_ | refine OWp.load (List.Mem.tail _ (List.Mem.head _)) rfl rfl rfl rfl rfl ?_ | refine OWp.load (List.Mem.tail _ (List.Mem.tail _ (List.Mem.head _))) rfl rfl rfl rfl rfl ?_ | refine OWp.load (List.Mem.tail _ (List.Mem.tail _ (List.Mem.tail _ (List.Mem.head _)))) rfl rfl rfl rfl rfl ?_ | refine OWp.load (List.Mem.tail _ (List.Mem.tail _ (List.Mem.tail _ (List.Mem.tail _ (List.Mem.head _))))) rfl rfl rfl rfl rfl ?_ | refine OWp.load (List.Mem.tail _ (List.Mem.tail _ (List.Mem.tail _ (List.Mem.tail _ (List.Mem.tail _ (List.Mem.head _)))))) rfl rfl rfl rfl rfl ?_
    refine OWp.evs 2 rfl ?_
    refine OWp.nil ?_
    refine Wp.cond rfl (fun cc1 => ?_) (fun cc1 => absurd (of_decide_eq_false cc1) (by exact Classical.byContradiction fun h2 => hp ⟨hm, by omega, by omega⟩))
    have cc1 := of_decide_eq_true cc1
    refine Wp.drop (S' := S) (by repeat (first | exact List.Sublist.refl _ | exact List.sublist_append_right _ _ | apply List.Sublist.cons)) ?_
    refine Wp.seq (Wp.region ?_)
    refine OWp.evs 2 rfl ?_
    refine OWp.nil ?_
    refine Wp.ret ⟨trivial, _, ⟨_, _, rfl, rfl, _, _, rfl, rfl, rfl⟩, ?_⟩
    exact h
  · skip
    refine CallWp.enter (args := [_, _, _]) Try.func56 rfl Try.ntmps56 rfl ?_
    refine Wp.seq (Wp.region ?_)
    refine OWp.step rfl (Step.box rfl rfl rfl ?_); intro L5 hBL5 hLL5
    refine OWp.evs 2 rfl ?_
    refine OWp.nil ?_
    refine Wp.seq (Wp.region ?_)
    refine OWp.evs 2 rfl ?_
    refine OWp.step rfl (Step.call rfl rfl rfl rfl rfl rfl ((table_no hm ?_)))
    refine OWp.evs 3 rfl ?_
    refine OWp.step rfl (Step.alloc rfl rfl rfl ?_); intro L8 hBL8 hLL8
    refine OWp.step rfl (Step.store 0 rfl rfl rfl rfl rfl (by assumption) rfl (Nat.le_of_ble_eq_true rfl) (Unfz.zero _) rfl rfl ?_)
    refine OWp.evs 1 rfl ?_
    refine OWp.nil ?_
    refine Wp.seq ?_
    refine Wp.seq (Wp.region ?_)
    refine OWp.evs 3 rfl ?_
    refine OWp.evs 7 rfl ?_
    refine OWp.nil ?_
    refine Wp.cond rfl (fun _ => ?_) (fun c => nomatch c)
    refine Wp.drop (S' := S) (by repeat (first | exact List.Sublist.refl _ | exact List.sublist_append_right _ _ | apply List.Sublist.cons)) ?_
    refine Wp.seq (Wp.region ?_)
    refine OWp.evs 2 rfl ?_
    refine OWp.nil ?_
    refine Wp.ret ⟨trivial, _, ⟨_, _, rfl, rfl, _, _, rfl, rfl, rfl⟩, ?_⟩
    exact h
theorem of_yes {mean most u : Nat} (h1 : most ≤ 4096) (h2 : mean ≤ 4096) (h3 : u < 4294967296) (h : Q (.tuple #[.int .i64 (dl mean u most : Nat), .int .i64 0]) S) :
    CallWp Try.prog B 56 #[.int .i64 (mean : Int), .int .i64 (most : Int), .int .i64 (u : Int)] Q S := by
  refine CallWp.enter (args := [_, _, _]) Try.func56 rfl Try.ntmps56 rfl ?_
  refine Wp.seq (Wp.region ?_)
  refine OWp.step rfl (Step.box rfl rfl rfl ?_); intro L5 hBL5 hLL5
  refine OWp.evs 2 rfl ?_
  refine OWp.nil ?_
  refine Wp.seq (Wp.region ?_)
  refine OWp.evs 2 rfl ?_
  refine OWp.step rfl (Step.call rfl rfl rfl rfl rfl rfl ((table_yes h1 h2 ?_)))
  intro L hBL hLL
  refine OWp.evs 3 rfl ?_
  refine OWp.step rfl (Step.alloc rfl rfl rfl ?_); intro L8 hBL8 hLL8
  refine OWp.step rfl (Step.store 0 rfl rfl rfl rfl rfl (by assumption) rfl (Nat.le_of_ble_eq_true rfl) (Unfz.zero _) rfl rfl ?_)
  refine OWp.evs 1 rfl ?_
  refine OWp.nil ?_
  refine Wp.seq ?_
  refine Wp.seq (Wp.region ?_)
  refine OWp.evs 3 rfl ?_
  first | refine OWp.load (List.Mem.head _) rfl rfl rfl rfl rfl ?_ | refine OWp.load (List.Mem.tail _ (List.Mem.head _)) rfl rfl rfl rfl rfl ?_ | refine OWp.load (List.Mem.tail _ (List.Mem.tail _ (List.Mem.head _))) rfl rfl rfl rfl rfl ?_ | refine OWp.load (List.Mem.tail _ (List.Mem.tail _ (List.Mem.tail _ (List.Mem.head _)))) rfl rfl rfl rfl rfl ?_ | refine OWp.load (List.Mem.tail _ (List.Mem.tail _ (List.Mem.tail _ (List.Mem.tail _ (List.Mem.head _))))) rfl rfl rfl rfl rfl ?_ | refine OWp.load (List.Mem.tail _ (List.Mem.tail _ (List.Mem.tail _ (List.Mem.tail _ (List.Mem.tail _ (List.Mem.head _)))))) rfl rfl rfl rfl rfl ?_
  refine OWp.evs 3 rfl ?_
  refine OWp.part 22 rfl (fun cc1 => absurd (of_decide_eq_true cc1) (by omega)) (fun cc1 => ?_)
  have cc1 := of_decide_eq_false cc1
  first | refine OWp.load (List.Mem.head _) rfl rfl rfl rfl rfl ?_ | refine OWp.load (List.Mem.tail _ (List.Mem.head _)) rfl rfl rfl rfl rfl ?_ | refine OWp.load (List.Mem.tail _ (List.Mem.tail _ (List.Mem.head _))) rfl rfl rfl rfl rfl ?_ | refine OWp.load (List.Mem.tail _ (List.Mem.tail _ (List.Mem.tail _ (List.Mem.head _)))) rfl rfl rfl rfl rfl ?_ | refine OWp.load (List.Mem.tail _ (List.Mem.tail _ (List.Mem.tail _ (List.Mem.tail _ (List.Mem.head _))))) rfl rfl rfl rfl rfl ?_ | refine OWp.load (List.Mem.tail _ (List.Mem.tail _ (List.Mem.tail _ (List.Mem.tail _ (List.Mem.tail _ (List.Mem.head _)))))) rfl rfl rfl rfl rfl ?_
  refine OWp.evs 2 rfl ?_
  refine OWp.nil ?_
  refine Wp.cond rfl (fun cc2 => absurd (of_decide_eq_true cc2) (by omega)) (fun cc2 => ?_)
  have cc2 := of_decide_eq_false cc2
  refine Wp.skip ?_
  refine Wp.seq (Wp.region ?_)
  refine OWp.evs 2 rfl ?_
  refine OWp.step rfl (Step.call rfl rfl rfl rfl rfl rfl ((searchC (f := fun i => decide (tab mean (i + 1) ≤ u)) rfl (by unfold lim; omega) (fun i hi Q' hq => of1C (by repeat (first | exact List.Mem.head _ | assumption | exact List.mem_append_left _ (by assumption) | apply List.mem_cons_of_mem | apply List.mem_append_right)) (by repeat (first | exact List.Mem.head _ | assumption | exact List.mem_append_left _ (by assumption) | apply List.mem_cons_of_mem | apply List.mem_append_right)) (by repeat (first | exact List.Mem.head _ | assumption | exact List.mem_append_left _ (by assumption) | apply List.mem_cons_of_mem | apply List.mem_append_right)) hi h1 hq) ?_)))
  intro j hj hj0 hj1
  refine OWp.evs 2 rfl ?_
  refine OWp.nil ?_
  refine Wp.drop (S' := S) (by repeat (first | exact List.Sublist.refl _ | exact List.sublist_append_right _ _ | apply List.Sublist.cons)) ?_
  refine Wp.ret ⟨trivial, _, ⟨_, _, rfl, rfl, _, _, rfl, rfl, rfl⟩, ?_⟩
  have e : dl mean u most = j := dl_cut hj (fun i hi => ?_) (fun i hi hk => ?_)
  · rw [e] at h; exact h
  · have := hj0 (by omega)
    have := of_decide_eq_false this
    have h4 := tab_anti mean (show i + 1 ≤ j - 1 + 1 by omega)
    omega
  · have := of_decide_eq_true (hj1 (by omega))
    have h4 := tab_anti mean (show j + 1 ≤ i + 1 by omega)
    omega
theorem rtable_yes {most mean : Nat} (h1 : most ≤ 4096) (h2 : mean ≤ 4096)
    (h : ∀ v es, Lg.Own B 3 1 v (most + 1) (ints (tabs mean (most + 1))) es → Q (.tuple #[v, .int .i64 0]) (es ++ S)) :
    CallWp Try.prog B 46 #[.int .i64 (mean : Int), .int .i64 (most : Int)] Q S := by
  refine CallWp.enter (args := [_, _]) Try.func46 rfl Try.ntmps46 rfl ?_
  refine Wp.seq (Wp.region ?_)
  refine OWp.evs 2 rfl ?_
  refine OWp.nil ?_
  refine Wp.seq ?_
  refine Wp.seq (Wp.region ?_)
  refine OWp.evs 2 rfl ?_
  refine OWp.step rfl (Step.call rfl rfl rfl rfl rfl rfl ((rmayC ?_)))
  rw [decide_eq_true ((mayP_one _ _).2 ⟨by omega, by omega, by omega, by omega⟩)]
  refine OWp.evs 1 rfl ?_
  refine OWp.nil ?_
  refine Wp.cond rfl (fun c => nomatch c) (fun _ => ?_)
  refine Wp.skip ?_
  refine Wp.seq (Wp.region ?_)
  refine OWp.step rfl (Step.buildSlice rfl rfl rfl ?_); intro L0 hBL0 hLL0
  refine OWp.evs 1 rfl ?_
  refine OWp.nil ?_
  refine Wp.seq ?_
  refine Wp.seq (Wp.region ?_)
  refine OWp.evs 1 rfl ?_
  refine OWp.nil ?_
  refine Wp.block ?_
  refine Wp.loopS (α := Nat × Value × Ents) (fun x => most - x.1) (fun x => [(7, .int .i64 (x.1 : Int)), (6, x.2.1), (0, .int .i64 (mean : Int)), (1, .int .i64 (most : Int))]) (fun x => x.2.2 ++ S) (fun x => x.1 ≤ most ∧ Lg.Own B 3 1 x.2.1 (x.1 + 1) (ints (tabs mean (x.1 + 1))) x.2.2) (0, .slice (some ⟨L0, 0, none⟩) 1 1, [(L0, cel [.int .i64 4294967296] 3)]) ?_ (.refl _) ⟨Nat.zero_le _, Own.row hBL0 rfl (by decide)⟩ ?_
  · exact .cons rfl (.cons rfl (.cons rfl (.cons rfl (.nil _))))
  rintro ⟨i, v, es⟩ ⟨hi, hown⟩
  simp only at hi hown ⊢
  refine Wp.seq ?_
  refine Wp.seq (Wp.region ?_)
  refine OWp.evs 3 rfl ?_
  refine OWp.nil ?_
  refine Wp.cond rfl (fun h3 => ?_) (fun h3 => ?_)
  · have h3 := of_decide_eq_true h3
    obtain ⟨b1, o1, c1, l1, t1, f1, hv1, hm1, _, hg1⟩ := hown.reads.get1 (by omega)
    subst hv1
    refine Wp.skip ?_
    refine Wp.seq ?_
    refine Wp.block ?_
    refine Wp.region ?_
    refine OWp.evs 3 rfl ?_
    refine OWp.g rfl rfl (Gives.indexAddrSlice (i) rfl rfl rfl rfl rfl rfl (by omega)) ?_
    refine OWp.load (List.mem_append_left _ hm1) rfl rfl rfl rfl ((hg1 i (by omega)).trans (by rw [ints, List.getElem?_map, tabs_get (by omega)]; rfl)) ?_
    refine OWp.evs 4 rfl ?_
    refine OWp.g rfl rfl (Gives.quo rfl rfl rfl (by rw [i64_id] <;> omega)) ?_
    rw [table_step (tab_le _ _) h2]
    refine OWp.step rfl (Step.buildSlice rfl rfl rfl ?_); intro Lp1 hBLp1 hLLp1
    refine OWp.step rfl (Step.appendAt [_] rfl rfl rfl rfl rfl rfl (by decide) rfl rfl hown (Reads.row (k := 1) (sz := 1) (.head _) (Nat.le_of_ble_eq_true rfl)) rfl (by show (_ + 1) * 8 ≤ _; omega) (by unfold maxLen; omega) ?_); intro v3 es3 ho3 _
    refine OWp.dropAt 0 rfl ?_
    refine OWp.evs 1 rfl ?_
    refine OWp.nil ?_
    refine Wp.region ?_
    refine OWp.evs 3 rfl ?_
    refine OWp.nil ?_
    refine ⟨(i + 1, v3, es3), by simp only; omega, ⟨by simp only; omega, ?_⟩, ?_, .refl _⟩
    · have : ints (tabs mean (i + 1 + 1)) = ints (tabs mean (i + 1)) ++ [.int .i64 (tab mean (i + 1) : Nat)] := by rw [tabs_snoc _ (i + 1)]; simp [ints]
      exact this ▸ ho3
    · exact .cons' rfl (int_eq (wrap_add1 i (by unfold lim; omega))) (.cons rfl (.cons rfl (.cons rfl (.nil _))))
  have h3 := of_decide_eq_false h3
  obtain rfl : i = most := by omega
  refine Wp.exit ?_
  refine Wp.seq (Wp.region ?_)
  refine OWp.evs 3 rfl ?_
  refine OWp.nil ?_
  refine Wp.ret ⟨trivial, _, ⟨_, _, rfl, rfl, _, _, rfl, rfl, rfl⟩, ?_⟩
  exact h v es hown
theorem rof_no {mean most u : Int} (hp : ¬ ofP mean most u) (h : Q (.tuple #[.int .i64 0, .int .i64 1]) S) : CallWp Try.prog B 54 #[.int .i64 mean, .int .i64 most, .int .i64 u] Q S := by
  unfold ofP at hp
  by_cases hm : mayP most [mean]
  · obtain ⟨m1, m2, m3, m4⟩ := (mayP_one _ _).1 hm
    obtain ⟨mean, rfl⟩ : ∃ m : Nat, mean = (m : Int) := ⟨mean.toNat, by omega⟩
    obtain ⟨most, rfl⟩ : ∃ m : Nat, most = (m : Int) := ⟨most.toNat, by omega⟩
    refine CallWp.enter (args := [_, _, _]) Try.func54 rfl Try.ntmps54 rfl ?_
    refine Wp.seq (Wp.region ?_)
    refine OWp.evs 2 rfl ?_
    refine OWp.nil ?_
    refine Wp.seq (Wp.region ?_)
    refine OWp.evs 2 rfl ?_
    refine OWp.step rfl (Step.call rfl rfl rfl rfl rfl rfl ((rtable_yes (by omega) (by omega) ?_)))
    intro v es hown
    refine OWp.evs 5 rfl ?_
    refine OWp.nil ?_
    refine Wp.seq ?_
    refine Wp.seq (Wp.region ?_)
    refine OWp.evs 3 rfl ?_
    refine OWp.evs 4 rfl ?_
    refine OWp.part 24 rfl (fun h1 => ?_) (fun h1 => ?_)
    · have h1 := of_decide_eq_true h1
      refine OWp.evs 3 rfl ?_
      refine OWp.nil ?_
      refine Wp.cond rfl (fun _ => ?_) (fun c => nomatch c)
      refine Wp.drop (S' := S) (by repeat (first | exact List.Sublist.refl _ | exact List.sublist_append_right _ _ | apply List.Sublist.cons)) ?_
      refine Wp.seq (Wp.region ?_)
      refine OWp.evs 2 rfl ?_
      refine OWp.nil ?_
      refine Wp.ret ⟨trivial, _, ⟨_, _, rfl, rfl, _, _, rfl, rfl, rfl⟩, ?_⟩
      exact h
    have h1 := of_decide_eq_false h1
    refine OWp.evs 3 rfl ?_
    refine OWp.nil ?_
    refine Wp.cond rfl (fun cc1 => ?_) (fun cc1 => absurd (of_decide_eq_false cc1) (by exact Classical.byContradiction fun h2 => hp ⟨hm, by omega, by omega⟩))
    have cc1 := of_decide_eq_true cc1
    refine Wp.drop (S' := S) (by repeat (first | exact List.Sublist.refl _ | exact List.sublist_append_right _ _ | apply List.Sublist.cons)) ?_
    refine Wp.seq (Wp.region ?_)
    refine OWp.evs 2 rfl ?_
    refine OWp.nil ?_
    refine Wp.ret ⟨trivial, _, ⟨_, _, rfl, rfl, _, _, rfl, rfl, rfl⟩, ?_⟩
    exact h
  · skip
    refine CallWp.enter (args := [_, _, _]) Try.func54 rfl Try.ntmps54 rfl ?_
    refine Wp.seq (Wp.region ?_)
    refine OWp.evs 2 rfl ?_
    refine OWp.nil ?_
    refine Wp.seq (Wp.region ?_)
    refine OWp.evs 2 rfl ?_
    refine OWp.step rfl (Step.call rfl rfl rfl rfl rfl rfl ((rtable_no hm ?_)))
    refine OWp.evs 5 rfl ?_
    refine OWp.nil ?_
    refine Wp.seq ?_
    refine Wp.seq (Wp.region ?_)
    refine OWp.evs 3 rfl ?_
    refine OWp.evs 7 rfl ?_
    refine OWp.nil ?_
    refine Wp.cond rfl (fun _ => ?_) (fun c => nomatch c)
    refine Wp.seq (Wp.region ?_)
    refine OWp.evs 2 rfl ?_
    refine OWp.nil ?_
    refine Wp.ret ⟨trivial, _, ⟨_, _, rfl, rfl, _, _, rfl, rfl, rfl⟩, ?_⟩
    exact h
theorem rof_yes {mean most u : Nat} (h1 : most ≤ 4096) (h2 : mean ≤ 4096) (h3 : u < 4294967296) (h : Q (.tuple #[.int .i64 (dl mean u most : Nat), .int .i64 0]) S) :
    CallWp Try.prog B 54 #[.int .i64 (mean : Int), .int .i64 (most : Int), .int .i64 (u : Int)] Q S := by
  refine CallWp.enter (args := [_, _, _]) Try.func54 rfl Try.ntmps54 rfl ?_
  refine Wp.seq (Wp.region ?_)
  refine OWp.evs 2 rfl ?_
  refine OWp.nil ?_
  refine Wp.seq (Wp.region ?_)
  refine OWp.evs 2 rfl ?_
  refine OWp.step rfl (Step.call rfl rfl rfl rfl rfl rfl ((rtable_yes h1 h2 ?_)))
  intro v es hown
  obtain ⟨b1, o1, c1, l1, t1, f1, hv1, hm1, _, hg1⟩ := hown.reads.get1 (by omega)
  subst hv1
  refine OWp.evs 5 rfl ?_
  refine OWp.nil ?_
  refine Wp.seq ?_
  refine Wp.seq (Wp.region ?_)
  refine OWp.evs 3 rfl ?_
  refine OWp.evs 4 rfl ?_
  refine OWp.part 24 rfl (fun cc1 => absurd (of_decide_eq_true cc1) (by omega)) (fun cc1 => ?_)
  have cc1 := of_decide_eq_false cc1
  refine OWp.evs 3 rfl ?_
  refine OWp.nil ?_
  refine Wp.cond rfl (fun cc2 => absurd (of_decide_eq_true cc2) (by omega)) (fun cc2 => ?_)
  have cc2 := of_decide_eq_false cc2
  refine Wp.skip ?_
  refine Wp.seq (Wp.region ?_)
  refine OWp.evs 1 rfl ?_
  refine OWp.nil ?_
  refine Wp.seq ?_
  refine Wp.seq (Wp.region ?_)
  refine OWp.evs 1 rfl ?_
  refine OWp.nil ?_
  refine Wp.block ?_
  refine Wp.loopS (α := Nat) (fun i => most - i) (fun i => [(11, .int .i64 ((i + 1 : Nat) : Int)), (10, .int .i64 (dl mean u i : Nat)), (8, .slice (some ⟨b1, o1, none⟩) (most + 1) c1), (2, .int .i64 (u : Int))]) (fun _ => es ++ S) (fun i => i ≤ most) 0 ?_ (.refl _) (Nat.zero_le _) ?_
  · exact .cons rfl (.cons rfl (.cons rfl (.cons rfl (.nil _))))
  intro i hi
  have hdl := dl_le mean u i
  refine Wp.seq ?_
  refine Wp.seq (Wp.region ?_)
  refine OWp.evs 4 rfl ?_
  refine OWp.nil ?_
  refine Wp.cond rfl (fun h4 => ?_) (fun h4 => ?_)
  · have h4 := of_decide_eq_true h4
    refine Wp.skip ?_
    refine Wp.seq ?_
    refine Wp.block ?_
    refine Wp.seq (Wp.region ?_)
    refine OWp.evs 2 rfl ?_
    refine OWp.g rfl rfl (Gives.indexAddrSlice (i + 1) rfl rfl rfl rfl rfl rfl (by omega)) ?_
    refine OWp.load (List.mem_append_left _ hm1) rfl rfl rfl rfl ((hg1 (i + 1) (by omega)).trans (by rw [ints, List.getElem?_map, tabs_get (by omega)]; rfl)) ?_
    refine OWp.evs 2 rfl ?_
    refine OWp.nil ?_
    refine Wp.cond rfl (fun h5 => ?_) (fun h5 => ?_)
    · have h5 := of_decide_eq_true h5
      refine Wp.region ?_
      refine OWp.evs 3 rfl ?_
      refine OWp.nil ?_
      refine Wp.region ?_
      refine OWp.evs 3 rfl ?_
      refine OWp.nil ?_
      refine ⟨i + 1, by omega, by omega, ?_, .refl _⟩
      exact .cons' rfl (int_eq (wrap_add1 (i + 1) (by unfold lim; omega))) (.cons' rfl (int_eq (by rw [dl, if_pos (by omega)]; exact wrap_add1 _ (by unfold lim; omega))) (.cons rfl (.cons rfl (.nil _))))
    have h5 := of_decide_eq_false h5
    refine Wp.skip ?_
    refine Wp.region ?_
    refine OWp.evs 3 rfl ?_
    refine OWp.nil ?_
    refine ⟨i + 1, by omega, by omega, ?_, .refl _⟩
    exact .cons' rfl (int_eq (wrap_add1 (i + 1) (by unfold lim; omega))) (.cons' rfl (int_eq (by rw [dl, if_neg (by omega)]; rfl)) (.cons rfl (.cons rfl (.nil _))))
  have h4 := of_decide_eq_false h4
  obtain rfl : i = most := by omega
  refine Wp.exit ?_
  refine Wp.drop (S' := S) (by repeat (first | exact List.Sublist.refl _ | exact List.sublist_append_right _ _ | apply List.Sublist.cons)) ?_
  refine Wp.seq (Wp.region ?_)
  refine OWp.evs 3 rfl ?_
  refine OWp.nil ?_
  refine Wp.ret ⟨trivial, _, ⟨_, _, rfl, rfl, _, _, rfl, rfl, rfl⟩, ?_⟩
  exact h
end
end Go.Proofs.C

namespace Go.Proofs.C
open Go.Lg
set_option maxRecDepth 100000

instance (mean most u : Int) : Decidable (ofP mean most u) := by unfold ofP; infer_instance
/-- The delay of a word, and why there is none. -/
def ofR (mean most u : Int) : Int × Int := if ofP mean most u then ((dl mean.toNat u.toNat most.toNat : Nat), 0) else (0, 1)
theorem ofR_yes {mean most u : Nat} (h1 : most ≤ 4096) (h2 : mean ≤ 4096) (h3 : u < 4294967296) : ofR mean most u = (((dl mean u most : Nat) : Int), 0) := by
  unfold ofR
  rw [if_pos ⟨(mayP_one _ _).2 ⟨by omega, by omega, by omega, by omega⟩, by omega, by omega⟩]
  rfl

def um (x : Int) (d : Nat) : Nat := (x % 18446744073709551616 % d).toNat
theorem um_lt {x : Int} {d : Nat} (hd : 0 < d) : um x d < d := by
  unfold um
  have := Int.emod_lt_of_pos (x % 18446744073709551616) (show (0 : Int) < d by omega)
  have := Int.emod_nonneg (x % 18446744073709551616) (show (d : Int) ≠ 0 by omega)
  omega
theorem um_eq {x : Int} {d : Nat} (hd : 0 < d) (h : d ≤ 4294967296) : IntKind.i64.wrap ((IntKind.u64.wrap x).tmod (d : Int)) = (um x d : Nat) := by
  have h1 := um_lt (x := x) hd
  have h2 := Int.emod_nonneg (x % 18446744073709551616) (show (d : Int) ≠ 0 by omega)
  rw [IntKind.wrap_u64, Int.tmod_eq_emod_of_nonneg (by omega)]
  unfold um at *
  rw [i64_id (by omega) (by omega)]
  omega

section
variable {B : Nat} {S R : Ents} {Q : Value → Ents → Prop}

theorem ofC {mean most u : Int} (h : Q (.tuple #[.int .i64 (ofR mean most u).1, .int .i64 (ofR mean most u).2]) S) : CallWp Try.prog B 56 #[.int .i64 mean, .int .i64 most, .int .i64 u] Q S := by
  by_cases hp : ofP mean most u
  · have hp' := hp
    obtain ⟨hm, h1, h2⟩ := hp'
    obtain ⟨m1, m2, m3, m4⟩ := (mayP_one _ _).1 hm
    rw [ofR, if_pos hp] at h
    obtain ⟨mean, rfl⟩ : ∃ m : Nat, mean = (m : Int) := ⟨mean.toNat, by omega⟩
    obtain ⟨most, rfl⟩ : ∃ m : Nat, most = (m : Int) := ⟨most.toNat, by omega⟩
    obtain ⟨u, rfl⟩ : ∃ m : Nat, u = (m : Int) := ⟨u.toNat, by omega⟩
    exact of_yes (by omega) (by omega) (by omega) h
  · rw [ofR, if_neg hp] at h
    exact of_no hp h
theorem rofC {mean most u : Int} (h : Q (.tuple #[.int .i64 (ofR mean most u).1, .int .i64 (ofR mean most u).2]) S) : CallWp Try.prog B 54 #[.int .i64 mean, .int .i64 most, .int .i64 u] Q S := by
  by_cases hp : ofP mean most u
  · have hp' := hp
    obtain ⟨hm, h1, h2⟩ := hp'
    obtain ⟨m1, m2, m3, m4⟩ := (mayP_one _ _).1 hm
    rw [ofR, if_pos hp] at h
    obtain ⟨mean, rfl⟩ : ∃ m : Nat, mean = (m : Int) := ⟨mean.toNat, by omega⟩
    obtain ⟨most, rfl⟩ : ∃ m : Nat, most = (m : Int) := ⟨most.toNat, by omega⟩
    obtain ⟨u, rfl⟩ : ∃ m : Nat, u = (m : Int) := ⟨u.toNat, by omega⟩
    exact rof_yes (by omega) (by omega) (by omega) h
  · rw [ofR, if_neg hp] at h
    exact rof_no hp h

end
end Go.Proofs.C
