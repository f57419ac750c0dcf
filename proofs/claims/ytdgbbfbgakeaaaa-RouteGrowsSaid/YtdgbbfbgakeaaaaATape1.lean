/- What functions of the given program do, one after the other, told by that layer. -/
import Derived.Test.YtdgbbfbgakeaaaaLgUse
import Derived.Test.YtdgbbfbgakeaaaaProg
namespace Go.Proofs.C
open Go.Lg
set_option maxRecDepth 100000

/-- A tape's block. -/
abbrev tp (b : Nat) (s : List UInt8) (k : Nat) : Nat × Obj := (b, cel [.string (str s), .int .i64 k] 36)
abbrev pt (b : Nat) : Value := .pointer (some ⟨b, 0, none⟩)
def lim : Nat := 140737488355328

section
variable {B : Nat} {S : Ents} {Q : Value → Ents → Prop} {s : List UInt8} {k p : Nat}

theorem tapeNew (h : ∀ L, B ≤ L → (∀ x ∈ S, x.1 < L) → Q (pt L) (tp L s 0 :: S)) : CallWp Try.prog B 24 #[.string (str s)] Q S := by
  refine CallWp.enter (args := [_]) Try.func24 rfl Try.ntmps24 rfl ?_
  refine Wp.seq (Wp.region ?_)
  refine OWp.evs 1 rfl ?_
  refine OWp.nil ?_
  refine Wp.seq (Wp.region ?_)
  refine OWp.evs 1 rfl ?_
  refine OWp.g rfl rfl (Gives.build rfl rfl) ?_
  refine OWp.g rfl rfl (Gives.build rfl rfl) ?_
  refine OWp.step rfl (Step.box rfl rfl rfl ?_); intro L hB hL
  refine OWp.evs 1 rfl ?_
  refine OWp.nil ?_
  refine Wp.ret ⟨trivial, _, ⟨_, _, rfl, rfl, rfl⟩, ?_⟩
  exact h L hB hL

theorem left (hm : tp p s k ∈ S) (hk : k ≤ s.length) (hs : s.length ≤ lim) (h : Q (.int .i64 ((s.length - k : Nat) : Int)) S) :
    CallWp Try.prog B 27 #[pt p] Q S := by
  unfold lim at hs
  refine CallWp.enter (args := [_]) Try.func27 rfl Try.ntmps27 rfl ?_
  refine Wp.seq (Wp.region ?_)
  refine OWp.evs 1 rfl ?_
  refine OWp.nil ?_
  refine Wp.seq (Wp.regionDraw [0, 1, 2, 3, 4, 5, 6, 7, 8, 9, 10] [] rfl (by decide +kernel) ?_)
  refine DWp.evs 3 rfl ?_
  refine DWp.load (hm) rfl rfl rfl rfl rfl rfl rfl ?_
  refine DWp.evs 4 rfl ?_
  refine DWp.load (hm) rfl rfl rfl rfl rfl rfl rfl ?_
  refine DWp.evs 2 rfl ?_
  refine DWp.nil ?_
  refine Wp.ret ⟨trivial, _, ⟨_, _, rfl, rfl, rfl⟩, ?_⟩
  rw [i64_id (by omega) (by omega), show (s.length : Int) - (k : Int) = ((s.length - k : Nat) : Int) by omega]
  exact h
end
end Go.Proofs.C
