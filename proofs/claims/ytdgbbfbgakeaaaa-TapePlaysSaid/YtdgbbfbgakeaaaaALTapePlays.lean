/- What functions of the given program do, one after the other, told by that layer. -/
import Derived.Test.YtdgbbfbgakeaaaaATape8
import Derived.Test.YtdgbbfbgakeaaaaALTapeForks
namespace Go.Proofs.C
open Go.Lg
set_option maxRecDepth 100000

def orderP (s : List UInt8) (k : Nat) (n : Int) : Nat := if n < 0 ∨ 64 < n then k else if s.length - k < 4 * (n.toNat - 1) then k else k + 4 * (n.toNat - 1)
/-- Where a tape stands behind an act. -/
def actP (s : List UInt8) (k : Nat) (x : Int × Int) : Nat :=
  if x.1 % 4 = 0 then (belowR s k x.2).2.2 else if x.1 % 4 = 1 then (wordR s k).2.2 else if x.1 % 4 = 2 then (bytesR s k x.2).2.2 else orderP s k x.2

theorem actP_le {s : List UInt8} {k : Nat} {x : Int × Int} (hk : k ≤ s.length) : actP s k x ≤ s.length := by
  unfold actP
  split
  · exact belowR_le hk
  split
  · exact wordR_le hk
  split
  · exact bytesR_le hk
  · unfold orderP
    split
    · exact hk
    split
    · exact hk
    · omega

theorem shuf_length {s : List UInt8} : ∀ (i k : Nat) (l : List Nat), (shuf s i k l).length = l.length
  | 0, _, _ => rfl
  | 1, _, _ => rfl
  | i + 2, k, l => by
    show (shuf s (i + 1) _ _).length = _
    rw [shuf_length, swp_length]

section
variable {B : Nat} {S R : Ents} {Q : Value → Ents → Prop} {s : List UInt8} {k p q : Nat}

theorem stepC {x : Int × Int} (hp : B ≤ p) (hq : B ≤ q) (hs : s.length ≤ lim) (hk : k ≤ s.length)
    (h : Q (.bool true) (tp p s (actP s k x) :: rtp q s (actP s k x) :: R)) :
    CallWp Try.prog B 39 #[pt p, pt q, .agg #[.int .i64 x.1, .int .i64 x.2]] Q (tp p s k :: rtp q s k :: R) := by
  obtain ⟨x1, n⟩ := x
  unfold actP at h
  simp only at h ⊢
  refine CallWp.enter (args := [_, _, _]) Try.func39 rfl Try.ntmps39 rfl ?_
  refine Wp.seq (Wp.region ?_)
  refine OWp.step rfl (Step.box rfl rfl rfl ?_); intro L hBL hLL
  refine OWp.evs 1 rfl ?_
  refine OWp.nil ?_
  refine Wp.seq ?_
  refine Wp.seq (Wp.region ?_)
  refine OWp.evs 1 rfl ?_
  first | refine OWp.load (List.Mem.head _) rfl rfl rfl rfl rfl ?_ | refine OWp.load (List.Mem.tail _ (List.Mem.head _)) rfl rfl rfl rfl rfl ?_ | refine OWp.load (List.Mem.tail _ (List.Mem.tail _ (List.Mem.head _))) rfl rfl rfl rfl rfl ?_ | refine OWp.load (List.Mem.tail _ (List.Mem.tail _ (List.Mem.tail _ (List.Mem.head _)))) rfl rfl rfl rfl rfl ?_ | refine OWp.load (List.Mem.tail _ (List.Mem.tail _ (List.Mem.tail _ (List.Mem.tail _ (List.Mem.head _))))) rfl rfl rfl rfl rfl ?_ | refine OWp.load (List.Mem.tail _ (List.Mem.tail _ (List.Mem.tail _ (List.Mem.tail _ (List.Mem.tail _ (List.Mem.head _)))))) rfl rfl rfl rfl rfl ?_
  refine OWp.step rfl (Step.call rfl rfl rfl rfl rfl rfl ((among (m := 4) (by decide) (by decide) ?_)))
  refine OWp.nil ?_
  refine Wp.block ?_
  refine Wp.seq (Wp.region ?_)
  refine OWp.evs 2 rfl ?_
  refine OWp.nil ?_
  refine Wp.cond rfl (fun h1 => ?_) (fun h1 => ?_)
  · have h1 := of_decide_eq_true h1
    rw [if_pos (show x1 % 4 = 0 from h1)] at h
    refine Wp.seq (Wp.region ?_)
    refine OWp.evs 2 rfl ?_
    first | refine OWp.load (List.Mem.head _) rfl rfl rfl rfl rfl ?_ | refine OWp.load (List.Mem.tail _ (List.Mem.head _)) rfl rfl rfl rfl rfl ?_ | refine OWp.load (List.Mem.tail _ (List.Mem.tail _ (List.Mem.head _))) rfl rfl rfl rfl rfl ?_ | refine OWp.load (List.Mem.tail _ (List.Mem.tail _ (List.Mem.tail _ (List.Mem.head _)))) rfl rfl rfl rfl rfl ?_ | refine OWp.load (List.Mem.tail _ (List.Mem.tail _ (List.Mem.tail _ (List.Mem.tail _ (List.Mem.head _))))) rfl rfl rfl rfl rfl ?_ | refine OWp.load (List.Mem.tail _ (List.Mem.tail _ (List.Mem.tail _ (List.Mem.tail _ (List.Mem.tail _ (List.Mem.head _)))))) rfl rfl rfl rfl rfl ?_
    refine OWp.step rfl (Step.call rfl rfl rfl rfl rfl rfl (CallWp.focus 1 rfl ((belowC hp hs hk ?_))))
    refine OWp.evs 5 rfl ?_
    refine OWp.nil ?_
    refine Wp.seq (Wp.region ?_)
    refine OWp.evs 2 rfl ?_
    first | refine OWp.load (List.Mem.head _) rfl rfl rfl rfl rfl ?_ | refine OWp.load (List.Mem.tail _ (List.Mem.head _)) rfl rfl rfl rfl rfl ?_ | refine OWp.load (List.Mem.tail _ (List.Mem.tail _ (List.Mem.head _))) rfl rfl rfl rfl rfl ?_ | refine OWp.load (List.Mem.tail _ (List.Mem.tail _ (List.Mem.tail _ (List.Mem.head _)))) rfl rfl rfl rfl rfl ?_ | refine OWp.load (List.Mem.tail _ (List.Mem.tail _ (List.Mem.tail _ (List.Mem.tail _ (List.Mem.head _))))) rfl rfl rfl rfl rfl ?_ | refine OWp.load (List.Mem.tail _ (List.Mem.tail _ (List.Mem.tail _ (List.Mem.tail _ (List.Mem.tail _ (List.Mem.head _)))))) rfl rfl rfl rfl rfl ?_
    refine OWp.step rfl (Step.call rfl rfl rfl rfl rfl rfl (CallWp.focus 2 rfl ((rbelowC hq hs hk ?_))))
    refine OWp.evs 5 rfl ?_
    refine OWp.nil ?_
    refine Wp.seq (Wp.region ?_)
    refine OWp.evs 4 rfl ?_
    refine OWp.part 45 rfl (fun c1 => ?_) (fun c1 => absurd (of_decide_eq_false c1) (by simp))
    have c1 := of_decide_eq_true c1
    refine OWp.evs 5 rfl ?_
    refine OWp.nil ?_
    refine Wp.dropAt 2 rfl ?_
    refine Wp.focus 1 rfl ?_
    refine Wp.ret ⟨trivial, _, ⟨_, _, rfl, rfl, rfl⟩, ?_⟩
    rw [decide_eq_true rfl]; exact h
  have h1 := of_decide_eq_false h1
  rw [if_neg (show ¬ x1 % 4 = 0 from h1)] at h
  refine Wp.seq (Wp.region ?_)
  refine OWp.evs 2 rfl ?_
  refine OWp.nil ?_
  refine Wp.cond rfl (fun h2 => ?_) (fun h2 => ?_)
  · have h2 := of_decide_eq_true h2
    rw [if_pos (show x1 % 4 = 1 from h2)] at h
    refine Wp.seq (Wp.region ?_)
    refine OWp.evs 1 rfl ?_
    refine OWp.step rfl (Step.call rfl rfl rfl rfl rfl rfl (CallWp.focus 1 rfl ((wordC hp hs hk ?_))))
    refine OWp.evs 5 rfl ?_
    refine OWp.nil ?_
    refine Wp.seq (Wp.region ?_)
    refine OWp.evs 1 rfl ?_
    refine OWp.step rfl (Step.call rfl rfl rfl rfl rfl rfl (CallWp.focus 2 rfl ((rwordC hq hs hk ?_))))
    refine OWp.evs 5 rfl ?_
    refine OWp.nil ?_
    refine Wp.seq (Wp.region ?_)
    refine OWp.evs 4 rfl ?_
    refine OWp.part 65 rfl (fun c2 => ?_) (fun c2 => absurd (of_decide_eq_false c2) (by simp))
    have c2 := of_decide_eq_true c2
    refine OWp.evs 5 rfl ?_
    refine OWp.nil ?_
    refine Wp.dropAt 2 rfl ?_
    refine Wp.focus 1 rfl ?_
    refine Wp.ret ⟨trivial, _, ⟨_, _, rfl, rfl, rfl⟩, ?_⟩
    rw [decide_eq_true rfl]; exact h
  have h2 := of_decide_eq_false h2
  rw [if_neg (show ¬ x1 % 4 = 1 from h2)] at h
  refine Wp.seq (Wp.region ?_)
  refine OWp.evs 2 rfl ?_
  refine OWp.nil ?_
  refine Wp.cond rfl (fun h3 => ?_) (fun h3 => ?_)
  · have h3 := of_decide_eq_true h3
    rw [if_pos (show x1 % 4 = 2 from h3)] at h
    refine Wp.seq (Wp.region ?_)
    refine OWp.evs 2 rfl ?_
    first | refine OWp.load (List.Mem.head _) rfl rfl rfl rfl rfl ?_ | refine OWp.load (List.Mem.tail _ (List.Mem.head _)) rfl rfl rfl rfl rfl ?_ | refine OWp.load (List.Mem.tail _ (List.Mem.tail _ (List.Mem.head _))) rfl rfl rfl rfl rfl ?_ | refine OWp.load (List.Mem.tail _ (List.Mem.tail _ (List.Mem.tail _ (List.Mem.head _)))) rfl rfl rfl rfl rfl ?_ | refine OWp.load (List.Mem.tail _ (List.Mem.tail _ (List.Mem.tail _ (List.Mem.tail _ (List.Mem.head _))))) rfl rfl rfl rfl rfl ?_ | refine OWp.load (List.Mem.tail _ (List.Mem.tail _ (List.Mem.tail _ (List.Mem.tail _ (List.Mem.tail _ (List.Mem.head _)))))) rfl rfl rfl rfl rfl ?_
    refine OWp.step rfl (Step.call rfl rfl rfl rfl rfl rfl (CallWp.focus 1 rfl ((bytesC hp hs hk ?_))))
    refine OWp.evs 5 rfl ?_
    refine OWp.nil ?_
    refine Wp.seq (Wp.region ?_)
    refine OWp.evs 2 rfl ?_
    first | refine OWp.load (List.Mem.head _) rfl rfl rfl rfl rfl ?_ | refine OWp.load (List.Mem.tail _ (List.Mem.head _)) rfl rfl rfl rfl rfl ?_ | refine OWp.load (List.Mem.tail _ (List.Mem.tail _ (List.Mem.head _))) rfl rfl rfl rfl rfl ?_ | refine OWp.load (List.Mem.tail _ (List.Mem.tail _ (List.Mem.tail _ (List.Mem.head _)))) rfl rfl rfl rfl rfl ?_ | refine OWp.load (List.Mem.tail _ (List.Mem.tail _ (List.Mem.tail _ (List.Mem.tail _ (List.Mem.head _))))) rfl rfl rfl rfl rfl ?_ | refine OWp.load (List.Mem.tail _ (List.Mem.tail _ (List.Mem.tail _ (List.Mem.tail _ (List.Mem.tail _ (List.Mem.head _)))))) rfl rfl rfl rfl rfl ?_
    refine OWp.step rfl (Step.call rfl rfl rfl rfl rfl rfl (CallWp.focus 2 rfl ((rbytesC hq hs hk ?_))))
    refine OWp.evs 5 rfl ?_
    refine OWp.nil ?_
    refine Wp.seq (Wp.region ?_)
    refine OWp.evs 4 rfl ?_
    refine OWp.part 89 rfl (fun c3 => ?_) (fun c3 => absurd (of_decide_eq_false c3) (by simp))
    have c3 := of_decide_eq_true c3
    refine OWp.evs 5 rfl ?_
    refine OWp.nil ?_
    refine Wp.dropAt 2 rfl ?_
    refine Wp.focus 1 rfl ?_
    refine Wp.ret ⟨trivial, _, ⟨_, _, rfl, rfl, rfl⟩, ?_⟩
    rw [decide_eq_true rfl]; exact h
  have h3 := of_decide_eq_false h3
  rw [if_neg (show ¬ x1 % 4 = 2 from h3)] at h
  unfold orderP at h
  refine Wp.skip ?_
  refine Wp.seq (Wp.region ?_)
  by_cases h4 : n < 0 ∨ 64 < n
  · skip
    rw [if_pos h4] at h
    refine OWp.evs 2 rfl ?_
    first | refine OWp.load (List.Mem.head _) rfl rfl rfl rfl rfl ?_ | refine OWp.load (List.Mem.tail _ (List.Mem.head _)) rfl rfl rfl rfl rfl ?_ | refine OWp.load (List.Mem.tail _ (List.Mem.tail _ (List.Mem.head _))) rfl rfl rfl rfl rfl ?_ | refine OWp.load (List.Mem.tail _ (List.Mem.tail _ (List.Mem.tail _ (List.Mem.head _)))) rfl rfl rfl rfl rfl ?_ | refine OWp.load (List.Mem.tail _ (List.Mem.tail _ (List.Mem.tail _ (List.Mem.tail _ (List.Mem.head _))))) rfl rfl rfl rfl rfl ?_ | refine OWp.load (List.Mem.tail _ (List.Mem.tail _ (List.Mem.tail _ (List.Mem.tail _ (List.Mem.tail _ (List.Mem.head _)))))) rfl rfl rfl rfl rfl ?_
    refine OWp.step rfl (Step.call rfl rfl rfl rfl rfl rfl (CallWp.focus 1 rfl ((order_range h4 ?_))))
    refine OWp.evs 5 rfl ?_
    refine OWp.nil ?_
    refine Wp.seq (Wp.region ?_)
    refine OWp.evs 2 rfl ?_
    first | refine OWp.load (List.Mem.head _) rfl rfl rfl rfl rfl ?_ | refine OWp.load (List.Mem.tail _ (List.Mem.head _)) rfl rfl rfl rfl rfl ?_ | refine OWp.load (List.Mem.tail _ (List.Mem.tail _ (List.Mem.head _))) rfl rfl rfl rfl rfl ?_ | refine OWp.load (List.Mem.tail _ (List.Mem.tail _ (List.Mem.tail _ (List.Mem.head _)))) rfl rfl rfl rfl rfl ?_ | refine OWp.load (List.Mem.tail _ (List.Mem.tail _ (List.Mem.tail _ (List.Mem.tail _ (List.Mem.head _))))) rfl rfl rfl rfl rfl ?_ | refine OWp.load (List.Mem.tail _ (List.Mem.tail _ (List.Mem.tail _ (List.Mem.tail _ (List.Mem.tail _ (List.Mem.head _)))))) rfl rfl rfl rfl rfl ?_
    refine OWp.step rfl (Step.call rfl rfl rfl rfl rfl rfl (CallWp.focus 2 rfl ((rorder_range h4 ?_))))
    refine OWp.evs 5 rfl ?_
    refine OWp.nil ?_
    refine Wp.seq (Wp.region ?_)
    refine OWp.evs 2 rfl ?_
    refine OWp.step rfl (Step.call rfl rfl rfl rfl rfl rfl ((sameInts (l := []) (k := []) (Reads.nil _ 1) (Reads.nil _ 1) (by decide) ?_)))
    refine OWp.evs 1 rfl ?_
    refine OWp.evs 5 rfl ?_
    refine OWp.nil ?_
    refine Wp.dropAt 2 rfl ?_
    refine Wp.focus 1 rfl ?_
    refine Wp.ret ⟨trivial, _, ⟨_, _, rfl, rfl, rfl⟩, ?_⟩
    rw [decide_eq_true rfl]; exact h
  rw [if_neg h4] at h
  obtain ⟨m, rfl⟩ : ∃ m : Nat, n = (m : Int) := ⟨n.toNat, by omega⟩
  rw [Int.toNat_natCast] at h
  by_cases h5 : s.length - k < 4 * (m - 1)
  · skip
    rw [if_pos h5] at h
    refine OWp.evs 2 rfl ?_
    first | refine OWp.load (List.Mem.head _) rfl rfl rfl rfl rfl ?_ | refine OWp.load (List.Mem.tail _ (List.Mem.head _)) rfl rfl rfl rfl rfl ?_ | refine OWp.load (List.Mem.tail _ (List.Mem.tail _ (List.Mem.head _))) rfl rfl rfl rfl rfl ?_ | refine OWp.load (List.Mem.tail _ (List.Mem.tail _ (List.Mem.tail _ (List.Mem.head _)))) rfl rfl rfl rfl rfl ?_ | refine OWp.load (List.Mem.tail _ (List.Mem.tail _ (List.Mem.tail _ (List.Mem.tail _ (List.Mem.head _))))) rfl rfl rfl rfl rfl ?_ | refine OWp.load (List.Mem.tail _ (List.Mem.tail _ (List.Mem.tail _ (List.Mem.tail _ (List.Mem.tail _ (List.Mem.head _)))))) rfl rfl rfl rfl rfl ?_
    refine OWp.step rfl (Step.call rfl rfl rfl rfl rfl rfl (CallWp.focus 1 rfl ((order_tape (by omega) hs hk h5 ?_))))
    refine OWp.evs 5 rfl ?_
    refine OWp.nil ?_
    refine Wp.seq (Wp.region ?_)
    refine OWp.evs 2 rfl ?_
    first | refine OWp.load (List.Mem.head _) rfl rfl rfl rfl rfl ?_ | refine OWp.load (List.Mem.tail _ (List.Mem.head _)) rfl rfl rfl rfl rfl ?_ | refine OWp.load (List.Mem.tail _ (List.Mem.tail _ (List.Mem.head _))) rfl rfl rfl rfl rfl ?_ | refine OWp.load (List.Mem.tail _ (List.Mem.tail _ (List.Mem.tail _ (List.Mem.head _)))) rfl rfl rfl rfl rfl ?_ | refine OWp.load (List.Mem.tail _ (List.Mem.tail _ (List.Mem.tail _ (List.Mem.tail _ (List.Mem.head _))))) rfl rfl rfl rfl rfl ?_ | refine OWp.load (List.Mem.tail _ (List.Mem.tail _ (List.Mem.tail _ (List.Mem.tail _ (List.Mem.tail _ (List.Mem.head _)))))) rfl rfl rfl rfl rfl ?_
    refine OWp.step rfl (Step.call rfl rfl rfl rfl rfl rfl (CallWp.focus 2 rfl ((rorder_tape (by omega) h5 ?_))))
    refine OWp.evs 5 rfl ?_
    refine OWp.nil ?_
    refine Wp.seq (Wp.region ?_)
    refine OWp.evs 2 rfl ?_
    refine OWp.step rfl (Step.call rfl rfl rfl rfl rfl rfl ((sameInts (l := []) (k := []) (Reads.nil _ 1) (Reads.nil _ 1) (by decide) ?_)))
    refine OWp.evs 1 rfl ?_
    refine OWp.evs 5 rfl ?_
    refine OWp.nil ?_
    refine Wp.dropAt 2 rfl ?_
    refine Wp.focus 1 rfl ?_
    refine Wp.ret ⟨trivial, _, ⟨_, _, rfl, rfl, rfl⟩, ?_⟩
    rw [decide_eq_true rfl]; exact h
  rw [if_neg h5] at h
  refine OWp.evs 2 rfl ?_
  first | refine OWp.load (List.Mem.head _) rfl rfl rfl rfl rfl ?_ | refine OWp.load (List.Mem.tail _ (List.Mem.head _)) rfl rfl rfl rfl rfl ?_ | refine OWp.load (List.Mem.tail _ (List.Mem.tail _ (List.Mem.head _))) rfl rfl rfl rfl rfl ?_ | refine OWp.load (List.Mem.tail _ (List.Mem.tail _ (List.Mem.tail _ (List.Mem.head _)))) rfl rfl rfl rfl rfl ?_ | refine OWp.load (List.Mem.tail _ (List.Mem.tail _ (List.Mem.tail _ (List.Mem.tail _ (List.Mem.head _))))) rfl rfl rfl rfl rfl ?_ | refine OWp.load (List.Mem.tail _ (List.Mem.tail _ (List.Mem.tail _ (List.Mem.tail _ (List.Mem.tail _ (List.Mem.head _)))))) rfl rfl rfl rfl rfl ?_
  refine OWp.step rfl (Step.call rfl rfl rfl rfl rfl rfl (CallWp.focus 1 rfl ((order_yes hp (by omega) hs hk (by omega) ?_))))
  intro L1 hB1 hL1
  refine OWp.evs 5 rfl ?_
  refine OWp.nil ?_
  refine Wp.seq (Wp.region ?_)
  refine OWp.evs 2 rfl ?_
  first | refine OWp.load (List.Mem.head _) rfl rfl rfl rfl rfl ?_ | refine OWp.load (List.Mem.tail _ (List.Mem.head _)) rfl rfl rfl rfl rfl ?_ | refine OWp.load (List.Mem.tail _ (List.Mem.tail _ (List.Mem.head _))) rfl rfl rfl rfl rfl ?_ | refine OWp.load (List.Mem.tail _ (List.Mem.tail _ (List.Mem.tail _ (List.Mem.head _)))) rfl rfl rfl rfl rfl ?_ | refine OWp.load (List.Mem.tail _ (List.Mem.tail _ (List.Mem.tail _ (List.Mem.tail _ (List.Mem.head _))))) rfl rfl rfl rfl rfl ?_ | refine OWp.load (List.Mem.tail _ (List.Mem.tail _ (List.Mem.tail _ (List.Mem.tail _ (List.Mem.tail _ (List.Mem.head _)))))) rfl rfl rfl rfl rfl ?_
  refine OWp.step rfl (Step.call rfl rfl rfl rfl rfl rfl (CallWp.focus 3 rfl ((rorder_yes hq (by omega) hs hk (by omega) ?_))))
  intro v es hv
  have hr1 := Reads.row (S := es ++ rtp q s (k + 4 * (m - 1)) :: (L1, cel (ints (shuf s m k (List.range m))) 3) :: tp p s (k + 4 * (m - 1)) :: (L, cel [.int .i64 x1, .int .i64 (m : Int)] 45) :: R) (sz := 1) (k := m) (cap := m) (b := L1) (l := ints (shuf s m k (List.range m))) (e := 3) (fz := (0, 0)) (by simp) (by rw [ints_length, shuf_length, List.length_range]; omega)
  rw [Nat.mul_one, List.take_of_length_le (by rw [ints_length, shuf_length, List.length_range]; omega)] at hr1
  refine OWp.evs 5 rfl ?_
  refine OWp.nil ?_
  refine Wp.seq (Wp.region ?_)
  refine OWp.evs 2 rfl ?_
  refine OWp.step rfl (Step.call rfl rfl rfl rfl rfl rfl ((sameNats hr1 hv (by unfold lim; omega) ?_)))
  rw [decide_eq_true rfl]
  refine OWp.evs 1 rfl ?_
  refine OWp.evs 5 rfl ?_
  refine OWp.nil ?_
  refine Wp.drop (S' := rtp q s (k + 4 * (m - 1)) :: tp p s (k + 4 * (m - 1)) :: R) ?_ ?_
  · exact ((List.Sublist.cons_cons _ (.cons _ (.cons_cons _ (.cons _ (.refl _)))))).trans (List.sublist_append_right _ _)
  refine Wp.focus 1 rfl ?_
  refine Wp.ret ⟨trivial, _, ⟨_, _, rfl, rfl, rfl⟩, ?_⟩
  rw [decide_eq_true rfl]; exact h
set_option maxHeartbeats 2000000 in
theorem tapePlaysL {a : Option Addr} {len cap : Nat} {zs : List (Int × Int)} (hs : s.length ≤ lim)
    (hr : Reads S 2 (.slice a len cap) zs.length (zs.flatMap act)) :
    CallWp Try.prog B 10 #[.string (str s), .slice a len cap] (fun v _ => v = .bool true) S := by
  obtain rfl := hr.len
  refine CallWp.enter (args := [_, _]) Try.func10 rfl Try.ntmps10 rfl ?_
  refine Wp.seq (Wp.region ?_)
  refine OWp.evs 1 rfl ?_
  refine OWp.nil ?_
  refine Wp.seq (Wp.region ?_)
  refine OWp.evs 1 rfl ?_
  refine OWp.step rfl (Step.call rfl rfl rfl rfl rfl rfl ((tapeNew ?_)))
  intro La hBa hLa
  refine OWp.evs 1 rfl ?_
  refine OWp.nil ?_
  refine Wp.seq (Wp.region ?_)
  refine OWp.evs 1 rfl ?_
  refine OWp.g rfl rfl (Gives.build rfl rfl) ?_
  refine OWp.step rfl (Step.box rfl rfl rfl ?_); intro Lr hBLr hLLr
  refine OWp.evs 1 rfl ?_
  refine OWp.nil ?_
  refine Wp.seq ?_
  refine Wp.seq (Wp.region ?_)
  refine OWp.evs 5 rfl ?_
  refine OWp.step rfl (Step.call rfl rfl rfl rfl rfl rfl ((works ?_)))
  refine OWp.evs 2 rfl ?_
  refine OWp.nil ?_
  refine Wp.cond rfl (fun c => nomatch c) (fun _ => ?_)
  refine Wp.skip ?_
  refine Wp.seq ?_
  refine Wp.seq (Wp.region ?_)
  refine OWp.evs 1 rfl ?_
  refine OWp.nil ?_
  refine Wp.block ?_
  refine Wp.loopS (α := Nat × Nat) (fun x => 100 - x.1) (fun x => [(7, .int .i64 (x.1 : Int)), (5, pt La), (6, pt Lr), (1, .slice a zs.length cap)]) (fun x => tp La s x.2 :: rtp Lr s x.2 :: S) (fun x => x.1 ≤ zs.length ∧ x.1 ≤ 100 ∧ x.2 ≤ s.length) (0, 0) ?_ (.swap _ _ _) ⟨by simp, by simp, by simp⟩ ?_
  · exact .cons rfl (.cons rfl (.cons rfl (.cons rfl (.nil _))))
  rintro ⟨i, k⟩ ⟨hi, hi60, hk⟩
  simp only at hi hi60 hk ⊢
  refine Wp.seq ?_
  refine Wp.seq (Wp.region ?_)
  refine OWp.evs 5 rfl ?_
  refine OWp.part 26 rfl (fun h1 => ?_) (fun h1 => ?_)
  · have h1 := of_decide_eq_true h1
    refine OWp.evs 3 rfl ?_
    refine OWp.nil ?_
    refine Wp.cond rfl (fun h2 => ?_) (fun h2 => ?_)
    · have h2 := of_decide_eq_true h2
      have hlt : i < zs.length := by omega
      obtain ⟨b, o, cap', l, e, fz, hv, hm, hat⟩ := hr.elem (sz := 2) (fun x _ => rfl) (by omega)
      cases hv
      have hld := partAt_agg (P := Try.prog) (t := 45) (hat i hlt) rfl rfl rfl
      generalize zs[i] = z at hld
      refine Wp.skip ?_
      refine Wp.seq ?_
      refine Wp.block ?_
      refine Wp.seq (Wp.region ?_)
      refine OWp.evs 1 rfl ?_
      refine OWp.step rfl (Step.call rfl rfl rfl rfl rfl rfl ((forkC (.head _) ?_)))
      intro Lf hBf hLf
      refine OWp.evs 1 rfl ?_
      refine OWp.nil ?_
      refine Wp.seq ?_
      refine Wp.seq (Wp.regionDraw [0, 1, 2, 3, 4, 5, 6, 7, 8, 10, 11, 12, 13, 9, 14, 15, 16] [9, 14] rfl (by decide +kernel) ?_)
      refine DWp.evs 3 rfl ?_
      refine DWp.evs 4 rfl ?_
      first | refine DWp.load (List.Mem.head _) rfl rfl rfl rfl rfl rfl rfl ?_ | refine DWp.load (List.Mem.tail _ (List.Mem.head _)) rfl rfl rfl rfl rfl rfl rfl ?_ | refine DWp.load (List.Mem.tail _ (List.Mem.tail _ (List.Mem.head _))) rfl rfl rfl rfl rfl rfl rfl ?_ | refine DWp.load (List.Mem.tail _ (List.Mem.tail _ (List.Mem.tail _ (List.Mem.head _)))) rfl rfl rfl rfl rfl rfl rfl ?_ | refine DWp.load (List.Mem.tail _ (List.Mem.tail _ (List.Mem.tail _ (List.Mem.tail _ (List.Mem.head _))))) rfl rfl rfl rfl rfl rfl rfl ?_ | refine DWp.load (List.Mem.tail _ (List.Mem.tail _ (List.Mem.tail _ (List.Mem.tail _ (List.Mem.tail _ (List.Mem.head _)))))) rfl rfl rfl rfl rfl rfl rfl ?_
      refine DWp.g rfl rfl rfl rfl (Gives.build rfl rfl) ?_
      refine DWp.evs 2 rfl ?_
      refine DWp.g rfl rfl rfl rfl (Gives.indexAddrSlice (i) rfl rfl rfl rfl rfl rfl (by omega)) ?_
      refine DWp.load ((by repeat (first | exact hm | apply List.mem_cons_of_mem | apply List.mem_append_right))) rfl rfl rfl rfl rfl rfl hld ?_
      refine DWp.stepGrow rfl rfl rfl (Step.box rfl rfl rfl ?_); intro Lt hBLt hLLt; refine ⟨fun _ hy => .tail _ hy, ?_⟩
      refine DWp.stepAll rfl rfl rfl rfl (Step.call rfl rfl rfl rfl rfl rfl (CallWp.focus 1 rfl ((stepC hBf hBLt hs hk ?_))))
      refine DWp.evs 2 rfl ?_
      refine DWp.nil ?_
      refine Wp.cond rfl (fun c => nomatch c) (fun _ => ?_)
      refine Wp.skip ?_
      refine Wp.seq (Wp.regionDraw [0, 1, 2, 3, 4, 5, 6, 7, 8, 9, 10, 11, 13, 14, 15, 16, 17, 12, 18, 19] [6, 12] rfl (by decide +kernel) ?_)
      refine DWp.evs 4 rfl ?_
      refine DWp.g rfl rfl rfl rfl (Gives.indexAddrSlice (i) rfl rfl rfl rfl rfl rfl (by omega)) ?_
      refine DWp.load ((by repeat (first | exact hm | apply List.mem_cons_of_mem | apply List.mem_append_right))) rfl rfl rfl rfl rfl rfl hld ?_
      refine DWp.stepAll rfl rfl rfl rfl (Step.call rfl rfl rfl rfl rfl rfl (CallWp.focus 3 rfl ((CallWp.focus 3 rfl (stepC hBa hBLr hs hk ?_)))))
      refine DWp.evs 2 rfl ?_
      have hk' := actP_le (x := z) hk
      generalize actP s k z = k' at hk'
      refine DWp.evs 6 rfl ?_
      first | refine DWp.load (List.Mem.head _) rfl rfl rfl rfl rfl rfl rfl ?_ | refine DWp.load (List.Mem.tail _ (List.Mem.head _)) rfl rfl rfl rfl rfl rfl rfl ?_ | refine DWp.load (List.Mem.tail _ (List.Mem.tail _ (List.Mem.head _))) rfl rfl rfl rfl rfl rfl rfl ?_ | refine DWp.load (List.Mem.tail _ (List.Mem.tail _ (List.Mem.tail _ (List.Mem.head _)))) rfl rfl rfl rfl rfl rfl rfl ?_ | refine DWp.load (List.Mem.tail _ (List.Mem.tail _ (List.Mem.tail _ (List.Mem.tail _ (List.Mem.head _))))) rfl rfl rfl rfl rfl rfl rfl ?_ | refine DWp.load (List.Mem.tail _ (List.Mem.tail _ (List.Mem.tail _ (List.Mem.tail _ (List.Mem.tail _ (List.Mem.head _)))))) rfl rfl rfl rfl rfl rfl rfl ?_
      refine DWp.evs 1 rfl ?_
      refine DWp.stepGrow rfl rfl rfl (Step.call rfl rfl rfl rfl rfl rfl ((left (.head _) hk' hs ?_)))
      refine ⟨fun _ hy => hy, ?_⟩
      refine DWp.evs 2 rfl ?_
      refine DWp.nil ?_
      refine Wp.cond rfl (fun c1 => absurd (ndT c1) (by simp)) (fun c1 => ?_)
      have c1 := ndF c1
      refine Wp.skip ?_
      refine Wp.dropAt 2 rfl ?_
      refine Wp.dropAt 2 rfl ?_
      refine Wp.region ?_
      refine OWp.evs 3 rfl ?_
      refine OWp.nil ?_
      refine ⟨(i + 1, k'), by simp only; omega, ⟨by simp only; omega, by simp only; omega, hk'⟩, ?_, ?_⟩
      · exact .cons' rfl (int_eq (wrap_add1 i (by unfold lim; omega))) (.cons rfl (.cons rfl (.cons rfl (.nil _))))
      · exact .refl _
    have h2 := of_decide_eq_false h2
    refine Wp.exit ?_
    refine Wp.seq (Wp.region ?_)
    refine OWp.evs 1 rfl ?_
    refine OWp.nil ?_
    refine Wp.ret ⟨trivial, _, ⟨_, _, rfl, rfl, rfl⟩, ?_⟩
    rfl
  have h1 := of_decide_eq_false h1
  refine OWp.evs 3 rfl ?_
  refine OWp.nil ?_
  refine Wp.cond rfl (fun c => nomatch c) (fun _ => ?_)
  refine Wp.exit ?_
  refine Wp.seq (Wp.region ?_)
  refine OWp.evs 1 rfl ?_
  refine OWp.nil ?_
  refine Wp.ret ⟨trivial, _, ⟨_, _, rfl, rfl, rfl⟩, ?_⟩
  rfl
theorem tapePlaysW {t : ByteArray} {a : Option Addr} {len cap : Nat} (h0 : Rd Try.prog S 9 [.string t]) (h1 : Rd Try.prog S 42 [.slice a len cap]) :
    CallWp Try.prog B 10 #[.string t, .slice a len cap] (fun v _ => v = .bool true) S := by
  obtain ⟨s, hs, hl⟩ := rdStr h0
  cases hs
  obtain ⟨zs, hz, _⟩ := rdActs h1
  exact tapePlaysL hl hz
end
end Go.Proofs.C
