/- What functions of the given program do, one after the other, told by that layer. -/
import Derived.Test.YtdgbbfbgakeaaaaATape5
namespace Go.Proofs.C
open Go.Lg
set_option maxRecDepth 100000

/-- What Bytes tells: the bytes, why not, and how much of the text is read behind it. -/
def bytesR (s : List UInt8) (k : Nat) (n : Int) : List UInt8 × Nat × Nat :=
  if n < 0 ∨ 4096 < n then ([], 1, k) else if (s.length : Int) < k + n then ([], 120, k) else ((s.drop k).take n.toNat, 0, k + n.toNat)

theorem bytesR_le {s : List UInt8} {k : Nat} {n : Int} (hk : k ≤ s.length) : (bytesR s k n).2.2 ≤ s.length := by
  unfold bytesR
  split
  · exact hk
  split
  · exact hk
  · simp only; omega

section
variable {B : Nat} {S R : Ents} {Q : Value → Ents → Prop} {s : List UInt8} {k p : Nat}

theorem bytesC {n : Int} (hB : B ≤ p) (hs : s.length ≤ lim) (hk : k ≤ s.length)
    (h : Q (.tuple #[.string (str (bytesR s k n).1), .int .i64 ((bytesR s k n).2.1 : Nat)]) (tp p s (bytesR s k n).2.2 :: R)) :
    CallWp Try.prog B 29 #[pt p, .int .i64 n] Q (tp p s k :: R) := by
  refine CallWp.enter (args := [_, _]) Try.func29 rfl Try.ntmps29 rfl ?_
  refine Wp.seq (Wp.region ?_)
  refine OWp.evs 2 rfl ?_
  refine OWp.nil ?_
  refine Wp.seq ?_
  refine Wp.seq (Wp.region ?_)
  refine OWp.evs 3 rfl ?_
  refine OWp.part 10 rfl (fun c1 => ?_) (fun c1 => ?_)
  · have c1 := of_decide_eq_true c1
    rw [bytesR, if_pos (.inl c1)] at h
    refine OWp.evs 3 rfl ?_
    refine OWp.nil ?_
    refine Wp.cond rfl (fun _ => ?_) (fun c => nomatch c)
    refine Wp.seq (Wp.region ?_)
    refine OWp.evs 2 rfl ?_
    refine OWp.nil ?_
    refine Wp.ret ⟨trivial, _, ⟨_, _, rfl, rfl, _, _, rfl, rfl, rfl⟩, ?_⟩
    exact h
  · have c1 := of_decide_eq_false c1
    refine OWp.evs 3 rfl ?_
    refine OWp.nil ?_
    refine Wp.cond rfl (fun c2 => ?_) (fun c2 => ?_)
    · have c2 := of_decide_eq_true c2
      rw [bytesR, if_pos (.inr (by omega))] at h
      refine Wp.seq (Wp.region ?_)
      refine OWp.evs 2 rfl ?_
      refine OWp.nil ?_
      refine Wp.ret ⟨trivial, _, ⟨_, _, rfl, rfl, _, _, rfl, rfl, rfl⟩, ?_⟩
      exact h
    · have c2 := of_decide_eq_false c2
      obtain ⟨m, rfl⟩ : ∃ m : Nat, n = (m : Int) := ⟨n.toNat, by omega⟩
      rw [bytesR, if_neg (by omega)] at h
      refine Wp.skip ?_
      refine Wp.seq (Wp.region ?_)
      refine OWp.evs 4 rfl ?_
      by_cases hm : s.length < k + m
      · rw [if_pos (by omega)] at h
        refine OWp.step rfl (Step.call rfl rfl rfl rfl rfl rfl (read_no hs hk hm ?_))
        refine OWp.evs 5 rfl ?_
        refine OWp.nil ?_
        refine Wp.seq ?_
        refine Wp.seq (Wp.region ?_)
        refine OWp.evs 2 rfl ?_
        refine OWp.nil ?_
        refine Wp.cond rfl (fun _ => ?_) (fun c => nomatch c)
        refine Wp.seq (Wp.region ?_)
        refine OWp.evs 2 rfl ?_
        refine OWp.nil ?_
        refine Wp.ret ⟨trivial, _, ⟨_, _, rfl, rfl, _, _, rfl, rfl, rfl⟩, ?_⟩
        exact h
      · rw [if_neg (by omega)] at h
        refine OWp.step rfl (Step.call rfl rfl rfl rfl rfl rfl (read_yes hB hs (by omega) ?_))
        refine OWp.evs 5 rfl ?_
        refine OWp.nil ?_
        refine Wp.seq ?_
        refine Wp.seq (Wp.region ?_)
        refine OWp.evs 2 rfl ?_
        refine OWp.nil ?_
        refine Wp.cond rfl (fun c => nomatch c) (fun _ => ?_)
        refine Wp.skip ?_
        refine Wp.seq (Wp.region ?_)
        refine OWp.evs 3 rfl ?_
        refine OWp.nil ?_
        refine Wp.ret ⟨trivial, _, ⟨_, _, rfl, rfl, _, _, rfl, rfl, rfl⟩, ?_⟩
        exact h

theorem forkC (hm : tp p s k ∈ S) (h : ∀ L, B ≤ L → (∀ x ∈ S, x.1 < L) → Q (pt L) (tp L s k :: S)) : CallWp Try.prog B 30 #[pt p] Q S := by
  refine CallWp.enter (args := [_]) Try.func30 rfl Try.ntmps30 rfl ?_
  refine Wp.seq (Wp.region ?_)
  refine OWp.evs 1 rfl ?_
  refine OWp.nil ?_
  refine Wp.seq (Wp.region ?_)
  refine OWp.evs 3 rfl ?_
  refine OWp.load (hm) rfl rfl rfl rfl rfl ?_
  refine OWp.g rfl rfl (Gives.build rfl rfl) ?_
  refine OWp.step rfl (Step.box rfl rfl rfl ?_); intro L5 hB5 hL5
  refine OWp.evs 1 rfl ?_
  refine OWp.nil ?_
  refine Wp.ret ⟨trivial, _, ⟨_, _, rfl, rfl, rfl⟩, ?_⟩
  exact h L5 hB5 hL5
end
end Go.Proofs.C
