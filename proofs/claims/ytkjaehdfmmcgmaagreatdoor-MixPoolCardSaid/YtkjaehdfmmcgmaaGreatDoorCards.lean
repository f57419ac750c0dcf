/-
  DERIVED. GIVEN WITH THE SEED: THE CARDS: each row of YtkjaehdfmmcgmaaGreatDoorRows.lean that lists a variable, with what it lists TIED to the program's text (the seventh form; the later family's looks); each row that meets fmt, with fmt's text TOLD by the authors' own Lean function (tested against real Go, not proved from fmt's source: count such statements apart). THE CARD IS WHAT COUNTS. Prove the row's statement (the work); the ties are given (YtkjaehdfmmcgmaaGreatDoorTie.lean); close each card by the builder's one call (the guide's Derived/Test/ToyasCard.lean, 'card_holds'). Laid BY PROGRAM, IN A SANDBOX (cutbox-door.mjs). By AI agents, Wed Nov 11 2026. No macro, syntax, notation, axiom, sorry.
-/
import Derived.Test.YtkjaehdfmmcgmaaGreatDoorRows
import GoSem.ClaimSeven
namespace Go.Proofs.YtkjaehdfmmcgmaaGreatDoor
namespace Rows

/-- THE TIED CARD OF 'dovecotelaw19.MixRefuses'. -/
def mixRefusesCard : Claim7 := { stood := { row := mixRefusesRow, standIns := [], harness := (true, "a2dd2352d290b527a9167307ec01d186b1982955b4d0ca4b4d8758b9de1c8160"), looks := false }, kinds := [], alts := [], laidByText := true, laidKinds := [.data, .data, .pinned], laidTests := true, laidLooks := .later }
def MixRefusesCardSaid : Prop := Claim7.holds Tryz.pinned (.plain (OpenSpec.ofChange mixRefusesSpec)) mixRefusesCard

/-- THE TIED CARD OF 'dovecotelaw19.MixPool'. -/
def mixPoolCard : Claim7 := { stood := { row := mixPoolRow, standIns := [], harness := (true, "a2dd2352d290b527a9167307ec01d186b1982955b4d0ca4b4d8758b9de1c8160"), looks := false }, kinds := [], alts := [], laidByText := true, laidKinds := [.data, .data, .pinned], laidTests := true, laidLooks := .later }
def MixPoolCardSaid : Prop := Claim7.holds Tryz.pinned (.plain (OpenSpec.ofChange mixPoolSpec)) mixPoolCard

/-- THE TIED CARD OF 'dovecotelaw19.MixOnce'. -/
def mixOnceCard : Claim7 := { stood := { row := mixOnceRow, standIns := [], harness := (true, "a2dd2352d290b527a9167307ec01d186b1982955b4d0ca4b4d8758b9de1c8160"), looks := false }, kinds := [], alts := [], laidByText := true, laidKinds := [.data, .data, .pinned], laidTests := true, laidLooks := .later }
def MixOnceCardSaid : Prop := Claim7.holds Tryz.pinned (.plain (OpenSpec.ofChange mixOnceSpec)) mixOnceCard

/-- THE SECOND FORM's CARD OF 'dovecotelaw19.MixRefuses'. -/
def mixRefusesUptoCard : Claim7 := { stood := { row := mixRefusesUptoRow, standIns := [], harness := (true, "a2dd2352d290b527a9167307ec01d186b1982955b4d0ca4b4d8758b9de1c8160"), looks := false }, kinds := [], alts := [], laidByText := true, laidKinds := [.data, .data, .pinned], laidTests := true, laidLooks := .later }
def MixRefusesUptoCardSaid : Prop := Claim7.holds Tryz.pinned (.plain (OpenSpec.upto mixRefusesSpec)) mixRefusesUptoCard

/-- THE SECOND FORM's CARD OF 'dovecotelaw19.MixPool'. -/
def mixPoolUptoCard : Claim7 := { stood := { row := mixPoolUptoRow, standIns := [], harness := (true, "a2dd2352d290b527a9167307ec01d186b1982955b4d0ca4b4d8758b9de1c8160"), looks := false }, kinds := [], alts := [], laidByText := true, laidKinds := [.data, .data, .pinned], laidTests := true, laidLooks := .later }
def MixPoolUptoCardSaid : Prop := Claim7.holds Tryz.pinned (.plain (OpenSpec.upto mixPoolSpec)) mixPoolUptoCard

/-- THE SECOND FORM's CARD OF 'dovecotelaw19.MixOnce'. -/
def mixOnceUptoCard : Claim7 := { stood := { row := mixOnceUptoRow, standIns := [], harness := (true, "a2dd2352d290b527a9167307ec01d186b1982955b4d0ca4b4d8758b9de1c8160"), looks := false }, kinds := [], alts := [], laidByText := true, laidKinds := [.data, .data, .pinned], laidTests := true, laidLooks := .later }
def MixOnceUptoCardSaid : Prop := Claim7.holds Tryz.pinned (.plain (OpenSpec.upto mixOnceSpec)) mixOnceUptoCard
end Rows
end Go.Proofs.YtkjaehdfmmcgmaaGreatDoor
