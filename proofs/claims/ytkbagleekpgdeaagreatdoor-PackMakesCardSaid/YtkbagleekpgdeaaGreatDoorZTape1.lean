/- What functions of the given program do, one after the other, told by that layer. -/
import Derived.Test.YtkbagleekpgdeaaGreatDoorLgM2xb716
import Derived.Test.YtkbagleekpgdeaaGreatDoorProg
namespace Go.Proofs.C
open Go.Lg
set_option maxRecDepth 100000

abbrev pt (b : Nat) : Value := .pointer (some ⟨b, 0, none⟩)
def lim : Nat := 140737488355328

section
variable {B : Nat} {S : Ents} {Q : Value → Ents → Prop} {s : List UInt8} {k p : Nat}

end
end Go.Proofs.C
