/- What functions of the given program do, one after the other, told by that layer. -/
import Derived.Test.YtkbagleekpgdeaaGreatDoorZM7x383f
import Derived.Test.YtkbagleekpgdeaaGreatDoorEM2xe31d
namespace Go.Proofs.D
open Go.Lg Go.Cv Go.Nm
open Go.Proofs.C (zi zi_length zi_one zi_append)
set_option maxRecDepth 100000
theorem byte_get {l : List UInt8} {g : List Value} {i : Nat} (h : i < l.length) : (byteCells l ++ g)[i]? = some (.int .u8 ((l.getD i 0).toNat : Int)) := by
  rw [bc_get h, List.getD_eq_getElem?_getD, List.getElem?_eq_getElem h]; rfl
theorem reads_bytes {S : Ents} {L n cap : Nat} {l : List UInt8} {g : List Value} {t : TypeId} {fz : Nat × Nat} (h : l.length = n) : Reads ((L, cel (byteCells l ++ g) t fz) :: S) 1 (.slice (some ⟨L, 0, none⟩) n cap) n (byteCells l) := by
  have := Reads.row (S := (L, cel (byteCells l ++ g) t fz) :: S) (sz := 1) (k := n) (cap := cap) (.head _) (by rw [List.length_append, byteCells_length]; omega)
  rw [Nat.mul_one, List.take_append_of_le_length (by rw [byteCells_length]; omega), List.take_of_length_le (by rw [byteCells_length]; omega)] at this
  exact this
attribute [local irreducible] dg le32
section
variable {B : Nat} {S R : Ents} {Q : Value → Ents → Prop}
end
end Go.Proofs.D
