/-
  DERIVED. GIVEN WITH THE SEED: THE CARDS: each row of YtkbagleekpgdeaaDoorRows.lean that lists a variable, with what it lists TIED to the program's text (the seventh form; the later family's looks); each row that meets fmt, with fmt's text TOLD by the authors' own Lean function (tested against real Go, not proved from fmt's source: count such statements apart). THE CARD IS WHAT COUNTS. Prove the row's statement (the work); the ties are given (YtkbagleekpgdeaaDoorTie.lean); close each card by the builder's one call (the guide's Derived/Test/ToyasCard.lean, 'card_holds'). Laid BY PROGRAM, IN A SANDBOX (cutbox-door.mjs). By AI agents, Wed Nov 11 2026. No macro, syntax, notation, axiom, sorry.
-/
import Derived.Test.YtkbagleekpgdeaaDoorRows
import GoSem.ClaimSeven
namespace Go.Proofs.YtkbagleekpgdeaaDoor
namespace Rows

/-- THE TIED CARD OF 'dovecotelaw08.HeadWhole'. -/
def headWholeCard : Claim7 := { stood := { row := headWholeRow, standIns := [], harness := (true, "ca0ac0d6436e2a3c30e70cb91e1857075d0a562f0380e779f952e5ea5f818698"), looks := false }, kinds := [], alts := [], laidByText := true, laidKinds := [.data], laidTests := true, laidLooks := .later }
def HeadWholeCardSaid : Prop := Claim7.holds Tryd.pinned (.plain (OpenSpec.ofChange headWholeSpec)) headWholeCard

/-- THE TIED CARD OF 'dovecotelaw08.HeadKeys'. -/
def headKeysCard : Claim7 := { stood := { row := headKeysRow, standIns := [], harness := (true, "ca0ac0d6436e2a3c30e70cb91e1857075d0a562f0380e779f952e5ea5f818698"), looks := false }, kinds := [], alts := [], laidByText := true, laidKinds := [.data], laidTests := true, laidLooks := .later }
def HeadKeysCardSaid : Prop := Claim7.holds Tryd.pinned (.plain (OpenSpec.ofChange headKeysSpec)) headKeysCard

/-- THE TIED CARD OF 'dovecotelaw08.HeadTurned'. -/
def headTurnedCard : Claim7 := { stood := { row := headTurnedRow, standIns := [], harness := (true, "ca0ac0d6436e2a3c30e70cb91e1857075d0a562f0380e779f952e5ea5f818698"), looks := false }, kinds := [], alts := [], laidByText := true, laidKinds := [.data], laidTests := true, laidLooks := .later }
def HeadTurnedCardSaid : Prop := Claim7.holds Tryd.pinned (.plain (OpenSpec.ofChange headTurnedSpec)) headTurnedCard

/-- THE TIED CARD OF 'dovecotelaw08.HeadAlike'. -/
def headAlikeCard : Claim7 := { stood := { row := headAlikeRow, standIns := [], harness := (true, "ca0ac0d6436e2a3c30e70cb91e1857075d0a562f0380e779f952e5ea5f818698"), looks := false }, kinds := [], alts := [], laidByText := true, laidKinds := [.data], laidTests := true, laidLooks := .later }
def HeadAlikeCardSaid : Prop := Claim7.holds Tryd.pinned (.plain (OpenSpec.ofChange headAlikeSpec)) headAlikeCard

/-- THE SECOND FORM's CARD OF 'dovecotelaw08.HeadWhole'. -/
def headWholeUptoCard : Claim7 := { stood := { row := headWholeUptoRow, standIns := [], harness := (true, "ca0ac0d6436e2a3c30e70cb91e1857075d0a562f0380e779f952e5ea5f818698"), looks := false }, kinds := [], alts := [], laidByText := true, laidKinds := [.data], laidTests := true, laidLooks := .later }
def HeadWholeUptoCardSaid : Prop := Claim7.holds Tryd.pinned (.plain (OpenSpec.upto headWholeSpec)) headWholeUptoCard

/-- THE SECOND FORM's CARD OF 'dovecotelaw08.HeadKeys'. -/
def headKeysUptoCard : Claim7 := { stood := { row := headKeysUptoRow, standIns := [], harness := (true, "ca0ac0d6436e2a3c30e70cb91e1857075d0a562f0380e779f952e5ea5f818698"), looks := false }, kinds := [], alts := [], laidByText := true, laidKinds := [.data], laidTests := true, laidLooks := .later }
def HeadKeysUptoCardSaid : Prop := Claim7.holds Tryd.pinned (.plain (OpenSpec.upto headKeysSpec)) headKeysUptoCard

/-- THE SECOND FORM's CARD OF 'dovecotelaw08.HeadTurned'. -/
def headTurnedUptoCard : Claim7 := { stood := { row := headTurnedUptoRow, standIns := [], harness := (true, "ca0ac0d6436e2a3c30e70cb91e1857075d0a562f0380e779f952e5ea5f818698"), looks := false }, kinds := [], alts := [], laidByText := true, laidKinds := [.data], laidTests := true, laidLooks := .later }
def HeadTurnedUptoCardSaid : Prop := Claim7.holds Tryd.pinned (.plain (OpenSpec.upto headTurnedSpec)) headTurnedUptoCard

/-- THE SECOND FORM's CARD OF 'dovecotelaw08.HeadAlike'. -/
def headAlikeUptoCard : Claim7 := { stood := { row := headAlikeUptoRow, standIns := [], harness := (true, "ca0ac0d6436e2a3c30e70cb91e1857075d0a562f0380e779f952e5ea5f818698"), looks := false }, kinds := [], alts := [], laidByText := true, laidKinds := [.data], laidTests := true, laidLooks := .later }
def HeadAlikeUptoCardSaid : Prop := Claim7.holds Tryd.pinned (.plain (OpenSpec.upto headAlikeSpec)) headAlikeUptoCard
end Rows
end Go.Proofs.YtkbagleekpgdeaaDoor
