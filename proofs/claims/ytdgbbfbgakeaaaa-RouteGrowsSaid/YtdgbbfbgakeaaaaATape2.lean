/- What functions of the given program do, one after the other, told by that layer. -/
import Derived.Test.YtdgbbfbgakeaaaaATape1
namespace Go.Proofs.C
open Go.Lg
set_option maxRecDepth 100000

section
variable {B : Nat} {S R : Ents} {Q : Value → Ents → Prop} {s : List UInt8} {k p : Nat}

theorem read_yes {n : Nat} (hB : B ≤ p) (hs : s.length ≤ lim) (hn : k + n ≤ s.length) (h : Q (.tuple #[.string (str ((s.drop k).take n)), .bool true]) (tp p s (k + n) :: R)) :
    CallWp Try.prog B 71 #[pt p, .int .i64 (n : Int)] Q (tp p s k :: R) := by
  unfold lim at hs
  have e1 : IntKind.i64.wrap ((k : Int) + (n : Int)) = ((k + n : Nat) : Int) := by rw [i64_id (by omega) (by omega)]; omega
  have e2 : IntKind.i64.wrap (((k + n : Nat) : Int) - (n : Int)) = (k : Int) := by rw [i64_id (by omega) (by omega)]; omega
  refine CallWp.enter (args := [_, _]) Try.func71 rfl Try.ntmps71 rfl ?_
  refine Wp.seq (Wp.region ?_)
  refine OWp.evs 2 rfl ?_
  refine OWp.nil ?_
  refine Wp.seq ?_
  refine Wp.seq (Wp.region ?_)
  refine OWp.evs 2 rfl ?_
  refine OWp.step rfl (Step.call rfl rfl rfl rfl rfl rfl (left (.head _) (by omega) hs ?_))
  refine OWp.evs 1 rfl ?_
  refine OWp.nil ?_
  refine Wp.cond rfl (fun c1 => ?_) (fun c1 => ?_)
  · exact absurd (of_decide_eq_true c1) (by omega)
  refine Wp.skip ?_
  refine Wp.seq (Wp.region ?_)
  refine OWp.evs 3 rfl ?_
  first | refine OWp.load (List.Mem.head _) rfl rfl rfl rfl rfl ?_ | refine OWp.load (List.Mem.tail _ (List.Mem.head _)) rfl rfl rfl rfl rfl ?_ | refine OWp.load (List.Mem.tail _ (List.Mem.tail _ (List.Mem.head _))) rfl rfl rfl rfl rfl ?_ | refine OWp.load (List.Mem.tail _ (List.Mem.tail _ (List.Mem.tail _ (List.Mem.head _)))) rfl rfl rfl rfl rfl ?_ | refine OWp.load (List.Mem.tail _ (List.Mem.tail _ (List.Mem.tail _ (List.Mem.tail _ (List.Mem.head _))))) rfl rfl rfl rfl rfl ?_ | refine OWp.load (List.Mem.tail _ (List.Mem.tail _ (List.Mem.tail _ (List.Mem.tail _ (List.Mem.tail _ (List.Mem.head _)))))) rfl rfl rfl rfl rfl ?_
  refine OWp.evs 4 rfl ?_
  refine OWp.step rfl (Step.store 0 rfl rfl rfl rfl rfl hB rfl (Nat.le_of_ble_eq_true rfl) (Unfz.zero _) rfl rfl ?_)
  refine OWp.nil ?_
  rw [e1]
  refine Wp.seq (Wp.regionDraw [0, 1, 2, 3, 4, 5, 6, 7, 8, 9, 10, 11, 12, 13, 14, 15, 16] [] rfl (by decide +kernel) ?_)
  refine DWp.evs 3 rfl ?_
  first | refine DWp.load (List.Mem.head _) rfl rfl rfl rfl rfl rfl rfl ?_ | refine DWp.load (List.Mem.tail _ (List.Mem.head _)) rfl rfl rfl rfl rfl rfl rfl ?_ | refine DWp.load (List.Mem.tail _ (List.Mem.tail _ (List.Mem.head _))) rfl rfl rfl rfl rfl rfl rfl ?_ | refine DWp.load (List.Mem.tail _ (List.Mem.tail _ (List.Mem.tail _ (List.Mem.head _)))) rfl rfl rfl rfl rfl rfl rfl ?_ | refine DWp.load (List.Mem.tail _ (List.Mem.tail _ (List.Mem.tail _ (List.Mem.tail _ (List.Mem.head _))))) rfl rfl rfl rfl rfl rfl rfl ?_ | refine DWp.load (List.Mem.tail _ (List.Mem.tail _ (List.Mem.tail _ (List.Mem.tail _ (List.Mem.tail _ (List.Mem.head _)))))) rfl rfl rfl rfl rfl rfl rfl ?_
  refine DWp.evs 3 rfl ?_
  first | refine DWp.load (List.Mem.head _) rfl rfl rfl rfl rfl rfl rfl ?_ | refine DWp.load (List.Mem.tail _ (List.Mem.head _)) rfl rfl rfl rfl rfl rfl rfl ?_ | refine DWp.load (List.Mem.tail _ (List.Mem.tail _ (List.Mem.head _))) rfl rfl rfl rfl rfl rfl rfl ?_ | refine DWp.load (List.Mem.tail _ (List.Mem.tail _ (List.Mem.tail _ (List.Mem.head _)))) rfl rfl rfl rfl rfl rfl rfl ?_ | refine DWp.load (List.Mem.tail _ (List.Mem.tail _ (List.Mem.tail _ (List.Mem.tail _ (List.Mem.head _))))) rfl rfl rfl rfl rfl rfl rfl ?_ | refine DWp.load (List.Mem.tail _ (List.Mem.tail _ (List.Mem.tail _ (List.Mem.tail _ (List.Mem.tail _ (List.Mem.head _)))))) rfl rfl rfl rfl rfl rfl rfl ?_
  refine DWp.evs 5 rfl ?_
  first | refine DWp.load (List.Mem.head _) rfl rfl rfl rfl rfl rfl rfl ?_ | refine DWp.load (List.Mem.tail _ (List.Mem.head _)) rfl rfl rfl rfl rfl rfl rfl ?_ | refine DWp.load (List.Mem.tail _ (List.Mem.tail _ (List.Mem.head _))) rfl rfl rfl rfl rfl rfl rfl ?_ | refine DWp.load (List.Mem.tail _ (List.Mem.tail _ (List.Mem.tail _ (List.Mem.head _)))) rfl rfl rfl rfl rfl rfl rfl ?_ | refine DWp.load (List.Mem.tail _ (List.Mem.tail _ (List.Mem.tail _ (List.Mem.tail _ (List.Mem.head _))))) rfl rfl rfl rfl rfl rfl rfl ?_ | refine DWp.load (List.Mem.tail _ (List.Mem.tail _ (List.Mem.tail _ (List.Mem.tail _ (List.Mem.tail _ (List.Mem.head _)))))) rfl rfl rfl rfl rfl rfl rfl ?_
  refine DWp.g rfl rfl rfl rfl (Gives.sliceStr (l := k) (h' := k + n) rfl rfl rfl ⟨_, _, rfl, e2⟩ ⟨_, _, rfl, rfl⟩ (by omega) hn) ?_
  refine DWp.evs 2 rfl ?_
  refine DWp.nil ?_
  refine Wp.ret ⟨trivial, _, ⟨_, _, rfl, rfl, _, _, rfl, rfl, rfl⟩, ?_⟩
  rw [Nat.add_sub_cancel_left]
  exact h

theorem read_no {n : Nat} (hs : s.length ≤ lim) (hk : k ≤ s.length) (hn : s.length < k + n) (h : Q (.tuple #[.string (str []), .bool false]) (tp p s k :: R)) :
    CallWp Try.prog B 71 #[pt p, .int .i64 (n : Int)] Q (tp p s k :: R) := by
  unfold lim at hs
  refine CallWp.enter (args := [_, _]) Try.func71 rfl Try.ntmps71 rfl ?_
  refine Wp.seq (Wp.region ?_)
  refine OWp.evs 2 rfl ?_
  refine OWp.nil ?_
  refine Wp.seq ?_
  refine Wp.seq (Wp.region ?_)
  refine OWp.evs 2 rfl ?_
  refine OWp.step rfl (Step.call rfl rfl rfl rfl rfl rfl (left (.head _) hk hs ?_))
  refine OWp.evs 1 rfl ?_
  refine OWp.nil ?_
  refine Wp.cond rfl (fun c1 => ?_) (fun c1 => ?_)
  · refine Wp.seq (Wp.region ?_)
    refine OWp.evs 2 rfl ?_
    refine OWp.nil ?_
    refine Wp.ret ⟨trivial, _, ⟨_, _, rfl, rfl, _, _, rfl, rfl, rfl⟩, ?_⟩
    exact h
  · exact absurd (of_decide_eq_false c1) (by omega)
end
end Go.Proofs.C
