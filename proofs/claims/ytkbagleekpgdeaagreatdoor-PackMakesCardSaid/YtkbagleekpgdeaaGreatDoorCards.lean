/-
  DERIVED. GIVEN WITH THE SEED: THE CARDS: each row of YtkbagleekpgdeaaGreatDoorRows.lean that lists a variable, with what it lists TIED to the program's text (the seventh form; the later family's looks); each row that meets fmt, with fmt's text TOLD by the authors' own Lean function (tested against real Go, not proved from fmt's source: count such statements apart). THE CARD IS WHAT COUNTS. Prove the row's statement (the work); the ties are given (YtkbagleekpgdeaaGreatDoorTie.lean); close each card by the builder's one call (the guide's Derived/Test/ToyasCard.lean, 'card_holds'). Laid BY PROGRAM, IN A SANDBOX (cutbox-door.mjs). By AI agents, Wed Nov 11 2026. No macro, syntax, notation, axiom, sorry.
-/
import Derived.Test.YtkbagleekpgdeaaGreatDoorRows
import GoSem.ClaimSeven
namespace Go.Proofs.YtkbagleekpgdeaaGreatDoor
namespace Rows

/-- THE TIED CARD OF 'dovecotelaw08.HeadMakes'. -/
def headMakesCard : Claim7 := { stood := { row := headMakesRow, standIns := [], harness := (true, "79499589ce278d7b5508498b5f78120a7fe7c1029af3986a8740a83e529c0e5a"), looks := false }, kinds := [], alts := [], laidByText := true, laidKinds := [.data], laidTests := true, laidLooks := .later }
def HeadMakesCardSaid : Prop := Claim7.holds Tryz.pinned (.plain (OpenSpec.ofChange headMakesSpec)) headMakesCard

/-- THE TIED CARD OF 'dovecotelaw08.HeadPeels'. -/
def headPeelsCard : Claim7 := { stood := { row := headPeelsRow, standIns := [], harness := (true, "79499589ce278d7b5508498b5f78120a7fe7c1029af3986a8740a83e529c0e5a"), looks := false }, kinds := [], alts := [], laidByText := true, laidKinds := [.data], laidTests := true, laidLooks := .later }
def HeadPeelsCardSaid : Prop := Claim7.holds Tryz.pinned (.plain (OpenSpec.ofChange headPeelsSpec)) headPeelsCard

/-- THE TIED CARD OF 'dovecotelaw09.PackMakes'. -/
def packMakesCard : Claim7 := { stood := { row := packMakesRow, standIns := [], harness := (true, "79499589ce278d7b5508498b5f78120a7fe7c1029af3986a8740a83e529c0e5a"), looks := false }, kinds := [], alts := [], laidByText := true, laidKinds := [.data, .data, .pinned], laidTests := true, laidLooks := .later }
def PackMakesCardSaid : Prop := Claim7.holds Tryz.pinned (.plain (OpenSpec.ofChange packMakesSpec)) packMakesCard

/-- THE TIED CARD OF 'dovecotelaw09.PackPeels'. -/
def packPeelsCard : Claim7 := { stood := { row := packPeelsRow, standIns := [], harness := (true, "79499589ce278d7b5508498b5f78120a7fe7c1029af3986a8740a83e529c0e5a"), looks := false }, kinds := [], alts := [], laidByText := true, laidKinds := [.data, .data, .pinned], laidTests := true, laidLooks := .later }
def PackPeelsCardSaid : Prop := Claim7.holds Tryz.pinned (.plain (OpenSpec.ofChange packPeelsSpec)) packPeelsCard

/-- THE TIED CARD OF 'dovecotelaw09.PackWhole'. -/
def packWholeCard : Claim7 := { stood := { row := packWholeRow, standIns := [], harness := (true, "79499589ce278d7b5508498b5f78120a7fe7c1029af3986a8740a83e529c0e5a"), looks := false }, kinds := [], alts := [], laidByText := true, laidKinds := [.data, .data, .pinned], laidTests := true, laidLooks := .later }
def PackWholeCardSaid : Prop := Claim7.holds Tryz.pinned (.plain (OpenSpec.ofChange packWholeSpec)) packWholeCard

/-- THE TIED CARD OF 'dovecotelaw09.PackSpoilt'. -/
def packSpoiltCard : Claim7 := { stood := { row := packSpoiltRow, standIns := [], harness := (true, "79499589ce278d7b5508498b5f78120a7fe7c1029af3986a8740a83e529c0e5a"), looks := false }, kinds := [], alts := [], laidByText := true, laidKinds := [.data, .data, .pinned], laidTests := true, laidLooks := .later }
def PackSpoiltCardSaid : Prop := Claim7.holds Tryz.pinned (.plain (OpenSpec.ofChange packSpoiltSpec)) packSpoiltCard

/-- THE TIED CARD OF 'dovecotelaw09.PackHeads'. -/
def packHeadsCard : Claim7 := { stood := { row := packHeadsRow, standIns := [], harness := (true, "79499589ce278d7b5508498b5f78120a7fe7c1029af3986a8740a83e529c0e5a"), looks := false }, kinds := [], alts := [], laidByText := true, laidKinds := [.data, .data, .pinned], laidTests := true, laidLooks := .later }
def PackHeadsCardSaid : Prop := Claim7.holds Tryz.pinned (.plain (OpenSpec.ofChange packHeadsSpec)) packHeadsCard

/-- THE SECOND FORM's CARD OF 'dovecotelaw08.HeadMakes'. -/
def headMakesUptoCard : Claim7 := { stood := { row := headMakesUptoRow, standIns := [], harness := (true, "79499589ce278d7b5508498b5f78120a7fe7c1029af3986a8740a83e529c0e5a"), looks := false }, kinds := [], alts := [], laidByText := true, laidKinds := [.data], laidTests := true, laidLooks := .later }
def HeadMakesUptoCardSaid : Prop := Claim7.holds Tryz.pinned (.plain (OpenSpec.upto headMakesSpec)) headMakesUptoCard

/-- THE SECOND FORM's CARD OF 'dovecotelaw08.HeadPeels'. -/
def headPeelsUptoCard : Claim7 := { stood := { row := headPeelsUptoRow, standIns := [], harness := (true, "79499589ce278d7b5508498b5f78120a7fe7c1029af3986a8740a83e529c0e5a"), looks := false }, kinds := [], alts := [], laidByText := true, laidKinds := [.data], laidTests := true, laidLooks := .later }
def HeadPeelsUptoCardSaid : Prop := Claim7.holds Tryz.pinned (.plain (OpenSpec.upto headPeelsSpec)) headPeelsUptoCard

/-- THE SECOND FORM's CARD OF 'dovecotelaw09.PackMakes'. -/
def packMakesUptoCard : Claim7 := { stood := { row := packMakesUptoRow, standIns := [], harness := (true, "79499589ce278d7b5508498b5f78120a7fe7c1029af3986a8740a83e529c0e5a"), looks := false }, kinds := [], alts := [], laidByText := true, laidKinds := [.data, .data, .pinned], laidTests := true, laidLooks := .later }
def PackMakesUptoCardSaid : Prop := Claim7.holds Tryz.pinned (.plain (OpenSpec.upto packMakesSpec)) packMakesUptoCard

/-- THE SECOND FORM's CARD OF 'dovecotelaw09.PackPeels'. -/
def packPeelsUptoCard : Claim7 := { stood := { row := packPeelsUptoRow, standIns := [], harness := (true, "79499589ce278d7b5508498b5f78120a7fe7c1029af3986a8740a83e529c0e5a"), looks := false }, kinds := [], alts := [], laidByText := true, laidKinds := [.data, .data, .pinned], laidTests := true, laidLooks := .later }
def PackPeelsUptoCardSaid : Prop := Claim7.holds Tryz.pinned (.plain (OpenSpec.upto packPeelsSpec)) packPeelsUptoCard

/-- THE SECOND FORM's CARD OF 'dovecotelaw09.PackWhole'. -/
def packWholeUptoCard : Claim7 := { stood := { row := packWholeUptoRow, standIns := [], harness := (true, "79499589ce278d7b5508498b5f78120a7fe7c1029af3986a8740a83e529c0e5a"), looks := false }, kinds := [], alts := [], laidByText := true, laidKinds := [.data, .data, .pinned], laidTests := true, laidLooks := .later }
def PackWholeUptoCardSaid : Prop := Claim7.holds Tryz.pinned (.plain (OpenSpec.upto packWholeSpec)) packWholeUptoCard

/-- THE SECOND FORM's CARD OF 'dovecotelaw09.PackSpoilt'. -/
def packSpoiltUptoCard : Claim7 := { stood := { row := packSpoiltUptoRow, standIns := [], harness := (true, "79499589ce278d7b5508498b5f78120a7fe7c1029af3986a8740a83e529c0e5a"), looks := false }, kinds := [], alts := [], laidByText := true, laidKinds := [.data, .data, .pinned], laidTests := true, laidLooks := .later }
def PackSpoiltUptoCardSaid : Prop := Claim7.holds Tryz.pinned (.plain (OpenSpec.upto packSpoiltSpec)) packSpoiltUptoCard

/-- THE SECOND FORM's CARD OF 'dovecotelaw09.PackHeads'. -/
def packHeadsUptoCard : Claim7 := { stood := { row := packHeadsUptoRow, standIns := [], harness := (true, "79499589ce278d7b5508498b5f78120a7fe7c1029af3986a8740a83e529c0e5a"), looks := false }, kinds := [], alts := [], laidByText := true, laidKinds := [.data, .data, .pinned], laidTests := true, laidLooks := .later }
def PackHeadsUptoCardSaid : Prop := Claim7.holds Tryz.pinned (.plain (OpenSpec.upto packHeadsSpec)) packHeadsUptoCard
end Rows
end Go.Proofs.YtkbagleekpgdeaaGreatDoor
