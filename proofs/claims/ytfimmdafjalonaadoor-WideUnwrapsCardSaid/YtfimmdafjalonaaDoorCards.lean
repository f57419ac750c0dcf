/-
  DERIVED. GIVEN WITH THE SEED: THE CARDS: each row of YtfimmdafjalonaaDoorRows.lean that lists a variable, with what it lists TIED to the program's text (the seventh form; the later family's looks); each row that meets fmt, with fmt's text TOLD by the authors' own Lean function (tested against real Go, not proved from fmt's source: count such statements apart). THE CARD IS WHAT COUNTS. Prove the row's statement (the work); the ties are given (YtfimmdafjalonaaDoorTie.lean); close each card by the builder's one call (the guide's Derived/Test/ToyasCard.lean, 'card_holds'). Laid BY PROGRAM, IN A SANDBOX (cutbox-door.mjs). By AI agents, Wed Nov 11 2026. No macro, syntax, notation, axiom, sorry.
-/
import Derived.Test.YtfimmdafjalonaaDoorRows
import GoSem.ClaimSeven
namespace Go.Proofs.YtfimmdafjalonaaDoor
namespace Rows

/-- THE TIED CARD OF 'dovecotelaw06.WideTurns'. -/
def wideTurnsCard : Claim7 := { stood := { row := wideTurnsRow, standIns := [], harness := (true, "0019d4994b0633a9ca989396d0e15d2f3507881630ba234216cfbe53c1683478"), looks := false }, kinds := [], alts := [], laidByText := true, laidKinds := [.data, .data, .pinned], laidTests := true, laidLooks := .later }
def WideTurnsCardSaid : Prop := Claim7.holds Tryd.pinned (.plain (OpenSpec.ofChange wideTurnsSpec)) wideTurnsCard

/-- THE TIED CARD OF 'dovecotelaw06.WideWraps'. -/
def wideWrapsCard : Claim7 := { stood := { row := wideWrapsRow, standIns := [], harness := (true, "0019d4994b0633a9ca989396d0e15d2f3507881630ba234216cfbe53c1683478"), looks := false }, kinds := [], alts := [], laidByText := true, laidKinds := [.data, .data, .pinned], laidTests := true, laidLooks := .later }
def WideWrapsCardSaid : Prop := Claim7.holds Tryd.pinned (.plain (OpenSpec.ofChange wideWrapsSpec)) wideWrapsCard

/-- THE TIED CARD OF 'dovecotelaw06.WideUnwraps'. -/
def wideUnwrapsCard : Claim7 := { stood := { row := wideUnwrapsRow, standIns := [], harness := (true, "0019d4994b0633a9ca989396d0e15d2f3507881630ba234216cfbe53c1683478"), looks := false }, kinds := [], alts := [], laidByText := true, laidKinds := [.data, .data, .pinned], laidTests := true, laidLooks := .later }
def WideUnwrapsCardSaid : Prop := Claim7.holds Tryd.pinned (.plain (OpenSpec.ofChange wideUnwrapsSpec)) wideUnwrapsCard

/-- THE TIED CARD OF 'dovecotelaw06.WideBack'. -/
def wideBackCard : Claim7 := { stood := { row := wideBackRow, standIns := [], harness := (true, "0019d4994b0633a9ca989396d0e15d2f3507881630ba234216cfbe53c1683478"), looks := false }, kinds := [], alts := [], laidByText := true, laidKinds := [.data, .data, .pinned], laidTests := true, laidLooks := .later }
def WideBackCardSaid : Prop := Claim7.holds Tryd.pinned (.plain (OpenSpec.ofChange wideBackSpec)) wideBackCard

/-- THE TIED CARD OF 'dovecotelaw06.WideText'. -/
def wideTextCard : Claim7 := { stood := { row := wideTextRow, standIns := [], harness := (true, "0019d4994b0633a9ca989396d0e15d2f3507881630ba234216cfbe53c1683478"), looks := false }, kinds := [], alts := [], laidByText := true, laidKinds := [.data, .data, .pinned], laidTests := true, laidLooks := .later }
def WideTextCardSaid : Prop := Claim7.holds Tryd.pinned (.plain (OpenSpec.ofChange wideTextSpec)) wideTextCard

/-- THE TIED CARD OF 'dovecotelaw06.WideLeft'. -/
def wideLeftCard : Claim7 := { stood := { row := wideLeftRow, standIns := [], harness := (true, "0019d4994b0633a9ca989396d0e15d2f3507881630ba234216cfbe53c1683478"), looks := false }, kinds := [], alts := [], laidByText := true, laidKinds := [.data, .data, .pinned], laidTests := true, laidLooks := .later }
def WideLeftCardSaid : Prop := Claim7.holds Tryd.pinned (.plain (OpenSpec.ofChange wideLeftSpec)) wideLeftCard

/-- THE TIED CARD OF 'dovecotelaw06.WidePlain'. -/
def widePlainCard : Claim7 := { stood := { row := widePlainRow, standIns := [], harness := (true, "0019d4994b0633a9ca989396d0e15d2f3507881630ba234216cfbe53c1683478"), looks := false }, kinds := [], alts := [], laidByText := true, laidKinds := [.data, .data, .pinned], laidTests := true, laidLooks := .later }
def WidePlainCardSaid : Prop := Claim7.holds Tryd.pinned (.plain (OpenSpec.ofChange widePlainSpec)) widePlainCard

/-- THE TIED CARD OF 'dovecotelaw08.HeadWhole'. -/
def headWholeCard : Claim7 := { stood := { row := headWholeRow, standIns := [], harness := (true, "0019d4994b0633a9ca989396d0e15d2f3507881630ba234216cfbe53c1683478"), looks := false }, kinds := [], alts := [], laidByText := true, laidKinds := [.data], laidTests := true, laidLooks := .later }
def HeadWholeCardSaid : Prop := Claim7.holds Tryd.pinned (.plain (OpenSpec.ofChange headWholeSpec)) headWholeCard

/-- THE TIED CARD OF 'dovecotelaw08.HeadKeys'. -/
def headKeysCard : Claim7 := { stood := { row := headKeysRow, standIns := [], harness := (true, "0019d4994b0633a9ca989396d0e15d2f3507881630ba234216cfbe53c1683478"), looks := false }, kinds := [], alts := [], laidByText := true, laidKinds := [.data], laidTests := true, laidLooks := .later }
def HeadKeysCardSaid : Prop := Claim7.holds Tryd.pinned (.plain (OpenSpec.ofChange headKeysSpec)) headKeysCard

/-- THE TIED CARD OF 'dovecotelaw08.HeadTurned'. -/
def headTurnedCard : Claim7 := { stood := { row := headTurnedRow, standIns := [], harness := (true, "0019d4994b0633a9ca989396d0e15d2f3507881630ba234216cfbe53c1683478"), looks := false }, kinds := [], alts := [], laidByText := true, laidKinds := [.data], laidTests := true, laidLooks := .later }
def HeadTurnedCardSaid : Prop := Claim7.holds Tryd.pinned (.plain (OpenSpec.ofChange headTurnedSpec)) headTurnedCard

/-- THE TIED CARD OF 'dovecotelaw08.HeadAlike'. -/
def headAlikeCard : Claim7 := { stood := { row := headAlikeRow, standIns := [], harness := (true, "0019d4994b0633a9ca989396d0e15d2f3507881630ba234216cfbe53c1683478"), looks := false }, kinds := [], alts := [], laidByText := true, laidKinds := [.data], laidTests := true, laidLooks := .later }
def HeadAlikeCardSaid : Prop := Claim7.holds Tryd.pinned (.plain (OpenSpec.ofChange headAlikeSpec)) headAlikeCard

/-- THE SECOND FORM's CARD OF 'dovecotelaw06.WideTurns'. -/
def wideTurnsUptoCard : Claim7 := { stood := { row := wideTurnsUptoRow, standIns := [], harness := (true, "0019d4994b0633a9ca989396d0e15d2f3507881630ba234216cfbe53c1683478"), looks := false }, kinds := [], alts := [], laidByText := true, laidKinds := [.data, .data, .pinned], laidTests := true, laidLooks := .later }
def WideTurnsUptoCardSaid : Prop := Claim7.holds Tryd.pinned (.plain (OpenSpec.upto wideTurnsSpec)) wideTurnsUptoCard

/-- THE SECOND FORM's CARD OF 'dovecotelaw06.WideWraps'. -/
def wideWrapsUptoCard : Claim7 := { stood := { row := wideWrapsUptoRow, standIns := [], harness := (true, "0019d4994b0633a9ca989396d0e15d2f3507881630ba234216cfbe53c1683478"), looks := false }, kinds := [], alts := [], laidByText := true, laidKinds := [.data, .data, .pinned], laidTests := true, laidLooks := .later }
def WideWrapsUptoCardSaid : Prop := Claim7.holds Tryd.pinned (.plain (OpenSpec.upto wideWrapsSpec)) wideWrapsUptoCard

/-- THE SECOND FORM's CARD OF 'dovecotelaw06.WideUnwraps'. -/
def wideUnwrapsUptoCard : Claim7 := { stood := { row := wideUnwrapsUptoRow, standIns := [], harness := (true, "0019d4994b0633a9ca989396d0e15d2f3507881630ba234216cfbe53c1683478"), looks := false }, kinds := [], alts := [], laidByText := true, laidKinds := [.data, .data, .pinned], laidTests := true, laidLooks := .later }
def WideUnwrapsUptoCardSaid : Prop := Claim7.holds Tryd.pinned (.plain (OpenSpec.upto wideUnwrapsSpec)) wideUnwrapsUptoCard

/-- THE SECOND FORM's CARD OF 'dovecotelaw06.WideBack'. -/
def wideBackUptoCard : Claim7 := { stood := { row := wideBackUptoRow, standIns := [], harness := (true, "0019d4994b0633a9ca989396d0e15d2f3507881630ba234216cfbe53c1683478"), looks := false }, kinds := [], alts := [], laidByText := true, laidKinds := [.data, .data, .pinned], laidTests := true, laidLooks := .later }
def WideBackUptoCardSaid : Prop := Claim7.holds Tryd.pinned (.plain (OpenSpec.upto wideBackSpec)) wideBackUptoCard

/-- THE SECOND FORM's CARD OF 'dovecotelaw06.WideText'. -/
def wideTextUptoCard : Claim7 := { stood := { row := wideTextUptoRow, standIns := [], harness := (true, "0019d4994b0633a9ca989396d0e15d2f3507881630ba234216cfbe53c1683478"), looks := false }, kinds := [], alts := [], laidByText := true, laidKinds := [.data, .data, .pinned], laidTests := true, laidLooks := .later }
def WideTextUptoCardSaid : Prop := Claim7.holds Tryd.pinned (.plain (OpenSpec.upto wideTextSpec)) wideTextUptoCard

/-- THE SECOND FORM's CARD OF 'dovecotelaw06.WideLeft'. -/
def wideLeftUptoCard : Claim7 := { stood := { row := wideLeftUptoRow, standIns := [], harness := (true, "0019d4994b0633a9ca989396d0e15d2f3507881630ba234216cfbe53c1683478"), looks := false }, kinds := [], alts := [], laidByText := true, laidKinds := [.data, .data, .pinned], laidTests := true, laidLooks := .later }
def WideLeftUptoCardSaid : Prop := Claim7.holds Tryd.pinned (.plain (OpenSpec.upto wideLeftSpec)) wideLeftUptoCard

/-- THE SECOND FORM's CARD OF 'dovecotelaw06.WidePlain'. -/
def widePlainUptoCard : Claim7 := { stood := { row := widePlainUptoRow, standIns := [], harness := (true, "0019d4994b0633a9ca989396d0e15d2f3507881630ba234216cfbe53c1683478"), looks := false }, kinds := [], alts := [], laidByText := true, laidKinds := [.data, .data, .pinned], laidTests := true, laidLooks := .later }
def WidePlainUptoCardSaid : Prop := Claim7.holds Tryd.pinned (.plain (OpenSpec.upto widePlainSpec)) widePlainUptoCard

/-- THE SECOND FORM's CARD OF 'dovecotelaw08.HeadWhole'. -/
def headWholeUptoCard : Claim7 := { stood := { row := headWholeUptoRow, standIns := [], harness := (true, "0019d4994b0633a9ca989396d0e15d2f3507881630ba234216cfbe53c1683478"), looks := false }, kinds := [], alts := [], laidByText := true, laidKinds := [.data], laidTests := true, laidLooks := .later }
def HeadWholeUptoCardSaid : Prop := Claim7.holds Tryd.pinned (.plain (OpenSpec.upto headWholeSpec)) headWholeUptoCard

/-- THE SECOND FORM's CARD OF 'dovecotelaw08.HeadKeys'. -/
def headKeysUptoCard : Claim7 := { stood := { row := headKeysUptoRow, standIns := [], harness := (true, "0019d4994b0633a9ca989396d0e15d2f3507881630ba234216cfbe53c1683478"), looks := false }, kinds := [], alts := [], laidByText := true, laidKinds := [.data], laidTests := true, laidLooks := .later }
def HeadKeysUptoCardSaid : Prop := Claim7.holds Tryd.pinned (.plain (OpenSpec.upto headKeysSpec)) headKeysUptoCard

/-- THE SECOND FORM's CARD OF 'dovecotelaw08.HeadTurned'. -/
def headTurnedUptoCard : Claim7 := { stood := { row := headTurnedUptoRow, standIns := [], harness := (true, "0019d4994b0633a9ca989396d0e15d2f3507881630ba234216cfbe53c1683478"), looks := false }, kinds := [], alts := [], laidByText := true, laidKinds := [.data], laidTests := true, laidLooks := .later }
def HeadTurnedUptoCardSaid : Prop := Claim7.holds Tryd.pinned (.plain (OpenSpec.upto headTurnedSpec)) headTurnedUptoCard

/-- THE SECOND FORM's CARD OF 'dovecotelaw08.HeadAlike'. -/
def headAlikeUptoCard : Claim7 := { stood := { row := headAlikeUptoRow, standIns := [], harness := (true, "0019d4994b0633a9ca989396d0e15d2f3507881630ba234216cfbe53c1683478"), looks := false }, kinds := [], alts := [], laidByText := true, laidKinds := [.data], laidTests := true, laidLooks := .later }
def HeadAlikeUptoCardSaid : Prop := Claim7.holds Tryd.pinned (.plain (OpenSpec.upto headAlikeSpec)) headAlikeUptoCard
end Rows
end Go.Proofs.YtfimmdafjalonaaDoor
