/- What functions of the given program do, one after the other, told by that layer. -/
import Derived.Test.YtkbagleekpgdeaaDoorHM5xb7fb
import Derived.Test.YtkbagleekpgdeaaDoorHM4x2259
import Derived.Test.YtkbagleekpgdeaaDoorBRefL
namespace Go.Lg
end Go.Lg
namespace Go.Proofs.D
open Go.Lg Go.Sha
set_option maxRecDepth 100000

section
variable {B : Nat} {S R : Ents} {Q : Value → Ents → Prop}

end
end Go.Proofs.D

namespace Go.Proofs.D
open Go.Lg Go.Sha
set_option maxRecDepth 100000

def rowN (f : Nat → Nat) (x : List Nat) (i : Nat) : List Nat := (List.range i).map f ++ x.drop i
def plusB (v s : V) (p : Nat) : Nat := add (v.list.getD p 0) (s.list.getD p 0)
section
variable {B : Nat} {S R : Ents} {Q : Value → Ents → Prop}

end
end Go.Proofs.D

namespace Go.Proofs.D
open Go.Lg Go.Sha
set_option maxRecDepth 100000

section
variable {B : Nat} {S R : Ents} {Q : Value → Ents → Prop}

end
end Go.Proofs.D

namespace Go.Proofs.D
open Go.Lg Go.Sha
set_option maxRecDepth 100000
theorem one_byte {L : Nat} {t : TypeId} {S : Ents} {a : Int} {x : UInt8} (ha : a = (x.toNat : Int)) : Reads ((L, cel [.int .u8 a] t) :: S) 1 (.slice (some ⟨L, 0, none⟩) 1 1) 1 (byteCells [x]) := by
  subst ha; exact Reads.row (k := 1) (sz := 1) (.head _) (Nat.le_of_ble_eq_true rfl)

section
variable {B : Nat} {S R : Ents} {Q : Value → Ents → Prop}

end
end Go.Proofs.D
