/- What functions of the given program do, one after the other, told by that layer. -/
import Derived.Test.YtkbagleekpgdeaaGreatDoorZTape1
import Derived.Test.YtkbagleekpgdeaaGreatDoorLgM3x97cf
namespace Go.Proofs.C
open Go.Lg
set_option maxRecDepth 100000

theorem wraps_i64 (n : Int) (h0 : 0 ≤ n) (h1 : n < 2 ^ 63) : IntKind.i64.wrap n = n := by rw [IntKind.wrap_i64]; omega

/-- The cells of whole numbers. -/
def zi (l : List Int) : List Value := l.map fun x => .int .i64 x
theorem zi_length (l : List Int) : (zi l).length = l.length := by simp [zi]
theorem zi_one (l : List Int) : (zi l).all (·.oneCell') = true := by
  rw [List.all_eq_true]; intro x hx; simp [zi] at hx; obtain ⟨_, _, rfl⟩ := hx; rfl
theorem zi_append (l k : List Int) : zi (l ++ k) = zi l ++ zi k := by simp [zi]
section
variable {B : Nat} {S : Ents} {Q : Value → Ents → Prop}

end
end Go.Proofs.C
