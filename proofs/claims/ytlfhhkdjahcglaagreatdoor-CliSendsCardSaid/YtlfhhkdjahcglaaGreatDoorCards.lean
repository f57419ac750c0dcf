/-
  DERIVED. GIVEN WITH THE SEED: THE CARDS: each row of YtlfhhkdjahcglaaGreatDoorRows.lean that lists a variable, with what it lists TIED to the program's text (the seventh form; the later family's looks); each row that meets fmt, with fmt's text TOLD by the authors' own Lean function (tested against real Go, not proved from fmt's source: count such statements apart). THE CARD IS WHAT COUNTS. Prove the row's statement (the work); the ties are given (YtlfhhkdjahcglaaGreatDoorTie.lean); close each card by the builder's one call (the guide's Derived/Test/ToyasCard.lean, 'card_holds'). Laid BY PROGRAM, IN A SANDBOX (cutbox-door.mjs). By AI agents, Wed Nov 11 2026. No macro, syntax, notation, axiom, sorry.
-/
import Derived.Test.YtlfhhkdjahcglaaGreatDoorRows
import GoSem.ClaimSeven
namespace Go.Proofs.YtlfhhkdjahcglaaGreatDoor
namespace Rows

/-- THE TIED CARD OF 'dovecotelaw25.CliEven'. -/
def cliEvenCard : Claim7 := { stood := { row := cliEvenRow, standIns := [], harness := (true, "d50fa254e06a82c659a9b1498cedbf63bf2e34703a0e921d48d8626bc230fc72"), looks := false }, kinds := [], alts := [], laidByText := true, laidKinds := [.data], laidTests := true, laidLooks := .later }
def CliEvenCardSaid : Prop := Claim7.holds Tryz.pinned (.plain (OpenSpec.ofChange cliEvenSpec)) cliEvenCard

/-- THE TIED CARD OF 'dovecotelaw25.CliAcks'. -/
def cliAcksCard : Claim7 := { stood := { row := cliAcksRow, standIns := [], harness := (true, "d50fa254e06a82c659a9b1498cedbf63bf2e34703a0e921d48d8626bc230fc72"), looks := false }, kinds := [], alts := [], laidByText := true, laidKinds := [.data], laidTests := true, laidLooks := .later }
def CliAcksCardSaid : Prop := Claim7.holds Tryz.pinned (.plain (OpenSpec.ofChange cliAcksSpec)) cliAcksCard

/-- THE TIED CARD OF 'dovecotelaw25.CliSends'. -/
def cliSendsCard : Claim7 := { stood := { row := cliSendsRow, standIns := [], harness := (true, "d50fa254e06a82c659a9b1498cedbf63bf2e34703a0e921d48d8626bc230fc72"), looks := false }, kinds := [], alts := [], laidByText := true, laidKinds := [.data, .data, .pinned], laidTests := true, laidLooks := .later }
def CliSendsCardSaid : Prop := Claim7.holds Tryz.pinned (.plain (OpenSpec.ofChange cliSendsSpec)) cliSendsCard

/-- THE SECOND FORM's CARD OF 'dovecotelaw25.CliEven'. -/
def cliEvenUptoCard : Claim7 := { stood := { row := cliEvenUptoRow, standIns := [], harness := (true, "d50fa254e06a82c659a9b1498cedbf63bf2e34703a0e921d48d8626bc230fc72"), looks := false }, kinds := [], alts := [], laidByText := true, laidKinds := [.data], laidTests := true, laidLooks := .later }
def CliEvenUptoCardSaid : Prop := Claim7.holds Tryz.pinned (.plain (OpenSpec.upto cliEvenSpec)) cliEvenUptoCard

/-- THE SECOND FORM's CARD OF 'dovecotelaw25.CliAcks'. -/
def cliAcksUptoCard : Claim7 := { stood := { row := cliAcksUptoRow, standIns := [], harness := (true, "d50fa254e06a82c659a9b1498cedbf63bf2e34703a0e921d48d8626bc230fc72"), looks := false }, kinds := [], alts := [], laidByText := true, laidKinds := [.data], laidTests := true, laidLooks := .later }
def CliAcksUptoCardSaid : Prop := Claim7.holds Tryz.pinned (.plain (OpenSpec.upto cliAcksSpec)) cliAcksUptoCard

/-- THE SECOND FORM's CARD OF 'dovecotelaw25.CliSends'. -/
def cliSendsUptoCard : Claim7 := { stood := { row := cliSendsUptoRow, standIns := [], harness := (true, "d50fa254e06a82c659a9b1498cedbf63bf2e34703a0e921d48d8626bc230fc72"), looks := false }, kinds := [], alts := [], laidByText := true, laidKinds := [.data, .data, .pinned], laidTests := true, laidLooks := .later }
def CliSendsUptoCardSaid : Prop := Claim7.holds Tryz.pinned (.plain (OpenSpec.upto cliSendsSpec)) cliSendsUptoCard
end Rows
end Go.Proofs.YtlfhhkdjahcglaaGreatDoor
