/- What functions of the given program do, one after the other, told by that layer. -/
import Derived.Test.YtkbagleekpgdeaaGreatDoorZInts
import Derived.Test.YtkbagleekpgdeaaGreatDoorLgM2xb716
import Derived.Test.YtkbagleekpgdeaaGreatDoorLgFork
import Derived.Test.YtkbagleekpgdeaaGreatDoorEM1x7081
namespace Go.Proofs.D
open Go.Lg Go.Cv Go.Nm
open Go.Proofs.C (zi zi_length zi_one zi_append)
set_option maxRecDepth 100000
abbrev pn (L : Nat) : Value := .pointer (some ⟨L, 0, none⟩)
def BIG : Int := 2305843009213693952
section
variable {B : Nat} {S R : Ents} {Q : Value → Ents → Prop}
end
end Go.Proofs.D

namespace Go.Proofs.D
open Go.Lg Go.Cv Go.Nm
open Go.Proofs.C (zi zi_length zi_one zi_append)
set_option maxRecDepth 100000
attribute [local irreducible] dg
section
variable {B : Nat} {S R : Ents} {Q : Value → Ents → Prop}
end
end Go.Proofs.D

namespace Go.Proofs.D
open Go.Lg Go.Cv Go.Nm
open Go.Proofs.C (zi zi_length zi_one zi_append)
set_option maxRecDepth 100000
attribute [local irreducible] dg
section
variable {B : Nat} {S R : Ents} {Q : Value → Ents → Prop}
end
end Go.Proofs.D

namespace Go.Proofs.D
open Go.Lg Go.Cv Go.Nm
open Go.Proofs.C (zi zi_length zi_one zi_append)
set_option maxRecDepth 100000
/-- A number of the reference. -/
def nmV (n : Nat) : Value := .agg (zi (dg (n : Int))).toArray
attribute [local irreducible] dg
section
variable {B : Nat} {S R : Ents} {Q : Value → Ents → Prop}
end
end Go.Proofs.D

namespace Go.Proofs.D
open Go.Lg Go.Cv Go.Nm
open Go.Proofs.C (zi zi_length zi_one zi_append)
set_option maxRecDepth 100000
attribute [local irreducible] dg dig
section
variable {B : Nat} {S R : Ents} {Q : Value → Ents → Prop}
end
end Go.Proofs.D
