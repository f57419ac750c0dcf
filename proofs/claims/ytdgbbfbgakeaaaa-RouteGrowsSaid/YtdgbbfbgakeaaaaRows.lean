/-
  No cell of these rows narrows 'for every input' (looked for: loops, veiled, ifaces, maps, wideKeys, modest, calm, conditions, laid).
  DERIVED. THE GIVEN ROWS OF THIS SEAT. 20 by the template 'for every input the law returns true; each argument reads behind the call as it read before'; 0 by the template 'total and deterministic' (their statements: YtdgbbfbgakeaaaaTotals.lean).
  GIVEN WITH THE SEED: the statements are not yours to turn. If you find one false, say at which input.
  Laid BY PROGRAM, IN A SANDBOX (cutbox-rows.mjs): the forced cells as the released guide's own fill.sh prints them over the translation b3c2f2361de83e7d… (all of the seat's roots in one cut). By AI agents, Wed Nov 11 2026. No macro, syntax, notation, axiom, sorry.
-/
import Derived.Test.YtdgbbfbgakeaaaaChecked
import GoSem.Claim
import GoSem.ClaimJoined
import GoSem.ClaimMapViews
import Derived.JoinedTies
import Derived.KernelRfl
namespace Go.Proofs.Ytdgbbfbgakeaaaa
/- THE CELL 'sum', in the pinned program and in every row, IS THE sha256 OF THE DUMP (.gsa) THAT YtdgbbfbgakeaaaaProg.lean LOADS. Nothing in Lean hashes anything: it is a label: what it is worth is what the hold of that sum in a sandbox is worth. -/
noncomputable def Try.pinned : Pinned := { name := "ytdgbbfbgakeaaaa", sum := "b3c2f2361de83e7df8c951804651dbd7b3fa18f0b51499f94aeb31efdc78e19b", checked := Try.checked }
namespace Rows
def none {H : Type} : Left H := { results := [], args := [] }

/-- 'dovecotelaw12.TapeBelow': WHATEVER THE INPUT: true; the input reads as it did. -/
def tapeBelowSpec : ChangeSpec := { name := "tapeBelow", fn := fun _ => fun
  | [d1, d2, d3] => { results := [.lit (.bool true)], args := [d1, d2, d3] }
  | _ => none }
def tapeBelowRow : OpenClaim := { program := "ytdgbbfbgakeaaaa", sum := "b3c2f2361de83e7df8c951804651dbd7b3fa18f0b51499f94aeb31efdc78e19b", func := "dovecote/dovecotelaw12.TapeBelow", spec := "tapeBelow", apart := false }
def TapeBelowSaid : Prop := tapeBelowRow.holds Try.pinned (OpenSpec.ofChange tapeBelowSpec)

/-- ITS FALSE NEIGHBOUR: 'it returns false'. Refute it at one input. -/
def tapeBelowWrong : ChangeSpec := { name := "tapeBelow", fn := fun _ => fun
  | [d1, d2, d3] => { results := [.lit (.bool false)], args := [d1, d2, d3] }
  | _ => none }
def TapeBelowWrongFalsely : Prop := tapeBelowRow.holds Try.pinned (OpenSpec.ofChange tapeBelowWrong)

/-- 'dovecotelaw12.TapeReads': WHATEVER THE INPUT: true; the input reads as it did. -/
def tapeReadsSpec : ChangeSpec := { name := "tapeReads", fn := fun _ => fun
  | [d1, d2] => { results := [.lit (.bool true)], args := [d1, d2] }
  | _ => none }
def tapeReadsRow : OpenClaim := { program := "ytdgbbfbgakeaaaa", sum := "b3c2f2361de83e7df8c951804651dbd7b3fa18f0b51499f94aeb31efdc78e19b", func := "dovecote/dovecotelaw12.TapeReads", spec := "tapeReads", apart := false }
def TapeReadsSaid : Prop := tapeReadsRow.holds Try.pinned (OpenSpec.ofChange tapeReadsSpec)

/-- ITS FALSE NEIGHBOUR: 'it returns false'. Refute it at one input. -/
def tapeReadsWrong : ChangeSpec := { name := "tapeReads", fn := fun _ => fun
  | [d1, d2] => { results := [.lit (.bool false)], args := [d1, d2] }
  | _ => none }
def TapeReadsWrongFalsely : Prop := tapeReadsRow.holds Try.pinned (OpenSpec.ofChange tapeReadsWrong)

/-- 'dovecotelaw12.TapeForks': WHATEVER THE INPUT: true; the input reads as it did. -/
def tapeForksSpec : ChangeSpec := { name := "tapeForks", fn := fun _ => fun
  | [d1, d2] => { results := [.lit (.bool true)], args := [d1, d2] }
  | _ => none }
def tapeForksRow : OpenClaim := { program := "ytdgbbfbgakeaaaa", sum := "b3c2f2361de83e7df8c951804651dbd7b3fa18f0b51499f94aeb31efdc78e19b", func := "dovecote/dovecotelaw12.TapeForks", spec := "tapeForks", apart := false }
def TapeForksSaid : Prop := tapeForksRow.holds Try.pinned (OpenSpec.ofChange tapeForksSpec)

/-- ITS FALSE NEIGHBOUR: 'it returns false'. Refute it at one input. -/
def tapeForksWrong : ChangeSpec := { name := "tapeForks", fn := fun _ => fun
  | [d1, d2] => { results := [.lit (.bool false)], args := [d1, d2] }
  | _ => none }
def TapeForksWrongFalsely : Prop := tapeForksRow.holds Try.pinned (OpenSpec.ofChange tapeForksWrong)

/-- 'dovecotelaw12.TapeOrders': WHATEVER THE INPUT: true; the input reads as it did. -/
def tapeOrdersSpec : ChangeSpec := { name := "tapeOrders", fn := fun _ => fun
  | [d1, d2] => { results := [.lit (.bool true)], args := [d1, d2] }
  | _ => none }
def tapeOrdersRow : OpenClaim := { program := "ytdgbbfbgakeaaaa", sum := "b3c2f2361de83e7df8c951804651dbd7b3fa18f0b51499f94aeb31efdc78e19b", func := "dovecote/dovecotelaw12.TapeOrders", spec := "tapeOrders", apart := false }
def TapeOrdersSaid : Prop := tapeOrdersRow.holds Try.pinned (OpenSpec.ofChange tapeOrdersSpec)

/-- ITS FALSE NEIGHBOUR: 'it returns false'. Refute it at one input. -/
def tapeOrdersWrong : ChangeSpec := { name := "tapeOrders", fn := fun _ => fun
  | [d1, d2] => { results := [.lit (.bool false)], args := [d1, d2] }
  | _ => none }
def TapeOrdersWrongFalsely : Prop := tapeOrdersRow.holds Try.pinned (OpenSpec.ofChange tapeOrdersWrong)

/-- 'dovecotelaw13.DelayTables': WHATEVER THE INPUT: true; the input reads as it did. -/
def delayTablesSpec : ChangeSpec := { name := "delayTables", fn := fun _ => fun
  | [d1, d2, d3] => { results := [.lit (.bool true)], args := [d1, d2, d3] }
  | _ => none }
def delayTablesRow : OpenClaim := { program := "ytdgbbfbgakeaaaa", sum := "b3c2f2361de83e7df8c951804651dbd7b3fa18f0b51499f94aeb31efdc78e19b", func := "dovecote/dovecotelaw13.DelayTables", spec := "delayTables", unfollowed := true, recurses := true, apart := false }
def DelayTablesSaid : Prop := delayTablesRow.holds Try.pinned (OpenSpec.ofChange delayTablesSpec)

/-- ITS FALSE NEIGHBOUR: 'it returns false'. Refute it at one input. -/
def delayTablesWrong : ChangeSpec := { name := "delayTables", fn := fun _ => fun
  | [d1, d2, d3] => { results := [.lit (.bool false)], args := [d1, d2, d3] }
  | _ => none }
def DelayTablesWrongFalsely : Prop := delayTablesRow.holds Try.pinned (OpenSpec.ofChange delayTablesWrong)

/-- 'dovecotelaw13.DelayCounts': WHATEVER THE INPUT: true; the input reads as it did. -/
def delayCountsSpec : ChangeSpec := { name := "delayCounts", fn := fun _ => fun
  | [d1, d2, d3] => { results := [.lit (.bool true)], args := [d1, d2, d3] }
  | _ => none }
def delayCountsRow : OpenClaim := { program := "ytdgbbfbgakeaaaa", sum := "b3c2f2361de83e7df8c951804651dbd7b3fa18f0b51499f94aeb31efdc78e19b", func := "dovecote/dovecotelaw13.DelayCounts", spec := "delayCounts", unfollowed := true, recurses := true, apart := false }
def DelayCountsSaid : Prop := delayCountsRow.holds Try.pinned (OpenSpec.ofChange delayCountsSpec)

/-- ITS FALSE NEIGHBOUR: 'it returns false'. Refute it at one input. -/
def delayCountsWrong : ChangeSpec := { name := "delayCounts", fn := fun _ => fun
  | [d1, d2, d3] => { results := [.lit (.bool false)], args := [d1, d2, d3] }
  | _ => none }
def DelayCountsWrongFalsely : Prop := delayCountsRow.holds Try.pinned (OpenSpec.ofChange delayCountsWrong)

/-- 'dovecotelaw13.DelayFalls': WHATEVER THE INPUT: true; the input reads as it did. -/
def delayFallsSpec : ChangeSpec := { name := "delayFalls", fn := fun _ => fun
  | [d1, d2, d3] => { results := [.lit (.bool true)], args := [d1, d2, d3] }
  | _ => none }
def delayFallsRow : OpenClaim := { program := "ytdgbbfbgakeaaaa", sum := "b3c2f2361de83e7df8c951804651dbd7b3fa18f0b51499f94aeb31efdc78e19b", func := "dovecote/dovecotelaw13.DelayFalls", spec := "delayFalls", unfollowed := true, recurses := true, apart := false }
def DelayFallsSaid : Prop := delayFallsRow.holds Try.pinned (OpenSpec.ofChange delayFallsSpec)

/-- ITS FALSE NEIGHBOUR: 'it returns false'. Refute it at one input. -/
def delayFallsWrong : ChangeSpec := { name := "delayFalls", fn := fun _ => fun
  | [d1, d2, d3] => { results := [.lit (.bool false)], args := [d1, d2, d3] }
  | _ => none }
def DelayFallsWrongFalsely : Prop := delayFallsRow.holds Try.pinned (OpenSpec.ofChange delayFallsWrong)

/-- 'dovecotelaw12.TapePlays': WHATEVER THE INPUT: true; the input reads as it did. -/
def tapePlaysSpec : ChangeSpec := { name := "tapePlays", fn := fun _ => fun
  | [d1, d2] => { results := [.lit (.bool true)], args := [d1, d2] }
  | _ => none }
def tapePlaysRow : OpenClaim := { program := "ytdgbbfbgakeaaaa", sum := "b3c2f2361de83e7df8c951804651dbd7b3fa18f0b51499f94aeb31efdc78e19b", func := "dovecote/dovecotelaw12.TapePlays", spec := "tapePlays", apart := false }
def TapePlaysSaid : Prop := tapePlaysRow.holds Try.pinned (OpenSpec.ofChange tapePlaysSpec)

/-- ITS FALSE NEIGHBOUR: 'it returns false'. Refute it at one input. -/
def tapePlaysWrong : ChangeSpec := { name := "tapePlays", fn := fun _ => fun
  | [d1, d2] => { results := [.lit (.bool false)], args := [d1, d2] }
  | _ => none }
def TapePlaysWrongFalsely : Prop := tapePlaysRow.holds Try.pinned (OpenSpec.ofChange tapePlaysWrong)

/-- 'dovecotelaw07.RouteBytes': WHATEVER THE INPUT: true; the input reads as it did. -/
def routeBytesSpec : ChangeSpec := { name := "routeBytes", fn := fun _ => fun
  | [d] => { results := [.lit (.bool true)], args := [d] }
  | _ => none }
def routeBytesRow : OpenClaim := { program := "ytdgbbfbgakeaaaa", sum := "b3c2f2361de83e7df8c951804651dbd7b3fa18f0b51499f94aeb31efdc78e19b", func := "dovecote/dovecotelaw07.RouteBytes", spec := "routeBytes", unfollowed := true, recurses := true, apart := false }
def RouteBytesSaid : Prop := routeBytesRow.holds Try.pinned (OpenSpec.ofChange routeBytesSpec)

/-- ITS FALSE NEIGHBOUR: 'it returns false'. Refute it at one input. -/
def routeBytesWrong : ChangeSpec := { name := "routeBytes", fn := fun _ => fun
  | [d] => { results := [.lit (.bool false)], args := [d] }
  | _ => none }
def RouteBytesWrongFalsely : Prop := routeBytesRow.holds Try.pinned (OpenSpec.ofChange routeBytesWrong)

/-- 'dovecotelaw07.RoutePaths': WHATEVER THE INPUT: true; the input reads as it did. -/
def routePathsSpec : ChangeSpec := { name := "routePaths", fn := fun _ => fun
  | [d] => { results := [.lit (.bool true)], args := [d] }
  | _ => none }
def routePathsRow : OpenClaim := { program := "ytdgbbfbgakeaaaa", sum := "b3c2f2361de83e7df8c951804651dbd7b3fa18f0b51499f94aeb31efdc78e19b", func := "dovecote/dovecotelaw07.RoutePaths", spec := "routePaths", unfollowed := true, recurses := true, apart := false }
def RoutePathsSaid : Prop := routePathsRow.holds Try.pinned (OpenSpec.ofChange routePathsSpec)

/-- ITS FALSE NEIGHBOUR: 'it returns false'. Refute it at one input. -/
def routePathsWrong : ChangeSpec := { name := "routePaths", fn := fun _ => fun
  | [d] => { results := [.lit (.bool false)], args := [d] }
  | _ => none }
def RoutePathsWrongFalsely : Prop := routePathsRow.holds Try.pinned (OpenSpec.ofChange routePathsWrong)

/-- 'dovecotelaw07.RouteGrows': WHATEVER THE INPUT: true; the input reads as it did. -/
def routeGrowsSpec : ChangeSpec := { name := "routeGrows", fn := fun _ => fun
  | [d1, d2] => { results := [.lit (.bool true)], args := [d1, d2] }
  | _ => none }
def routeGrowsRow : OpenClaim := { program := "ytdgbbfbgakeaaaa", sum := "b3c2f2361de83e7df8c951804651dbd7b3fa18f0b51499f94aeb31efdc78e19b", func := "dovecote/dovecotelaw07.RouteGrows", spec := "routeGrows", unfollowed := true, recurses := true, apart := false }
def RouteGrowsSaid : Prop := routeGrowsRow.holds Try.pinned (OpenSpec.ofChange routeGrowsSpec)

/-- ITS FALSE NEIGHBOUR: 'it returns false'. Refute it at one input. -/
def routeGrowsWrong : ChangeSpec := { name := "routeGrows", fn := fun _ => fun
  | [d1, d2] => { results := [.lit (.bool false)], args := [d1, d2] }
  | _ => none }
def RouteGrowsWrongFalsely : Prop := routeGrowsRow.holds Try.pinned (OpenSpec.ofChange routeGrowsWrong)

/-- 'dovecotelaw07.RouteLong': WHATEVER THE INPUT: true; the input reads as it did. -/
def routeLongSpec : ChangeSpec := { name := "routeLong", fn := fun _ => fun
  | [d1, d2] => { results := [.lit (.bool true)], args := [d1, d2] }
  | _ => none }
def routeLongRow : OpenClaim := { program := "ytdgbbfbgakeaaaa", sum := "b3c2f2361de83e7df8c951804651dbd7b3fa18f0b51499f94aeb31efdc78e19b", func := "dovecote/dovecotelaw07.RouteLong", spec := "routeLong", unfollowed := true, recurses := true, apart := false }
def RouteLongSaid : Prop := routeLongRow.holds Try.pinned (OpenSpec.ofChange routeLongSpec)

/-- ITS FALSE NEIGHBOUR: 'it returns false'. Refute it at one input. -/
def routeLongWrong : ChangeSpec := { name := "routeLong", fn := fun _ => fun
  | [d1, d2] => { results := [.lit (.bool false)], args := [d1, d2] }
  | _ => none }
def RouteLongWrongFalsely : Prop := routeLongRow.holds Try.pinned (OpenSpec.ofChange routeLongWrong)

/-- 'dovecotelaw07.RouteReads': WHATEVER THE INPUT: true; the input reads as it did. -/
def routeReadsSpec : ChangeSpec := { name := "routeReads", fn := fun _ => fun
  | [d] => { results := [.lit (.bool true)], args := [d] }
  | _ => none }
def routeReadsRow : OpenClaim := { program := "ytdgbbfbgakeaaaa", sum := "b3c2f2361de83e7df8c951804651dbd7b3fa18f0b51499f94aeb31efdc78e19b", func := "dovecote/dovecotelaw07.RouteReads", spec := "routeReads", unfollowed := true, recurses := true, apart := false }
def RouteReadsSaid : Prop := routeReadsRow.holds Try.pinned (OpenSpec.ofChange routeReadsSpec)

/-- ITS FALSE NEIGHBOUR: 'it returns false'. Refute it at one input. -/
def routeReadsWrong : ChangeSpec := { name := "routeReads", fn := fun _ => fun
  | [d] => { results := [.lit (.bool false)], args := [d] }
  | _ => none }
def RouteReadsWrongFalsely : Prop := routeReadsRow.holds Try.pinned (OpenSpec.ofChange routeReadsWrong)

/-- 'dovecotelaw07.RouteBack': WHATEVER THE INPUT: true; the input reads as it did. -/
def routeBackSpec : ChangeSpec := { name := "routeBack", fn := fun _ => fun
  | [d1, d2] => { results := [.lit (.bool true)], args := [d1, d2] }
  | _ => none }
def routeBackRow : OpenClaim := { program := "ytdgbbfbgakeaaaa", sum := "b3c2f2361de83e7df8c951804651dbd7b3fa18f0b51499f94aeb31efdc78e19b", func := "dovecote/dovecotelaw07.RouteBack", spec := "routeBack", unfollowed := true, recurses := true, apart := false }
def RouteBackSaid : Prop := routeBackRow.holds Try.pinned (OpenSpec.ofChange routeBackSpec)

/-- ITS FALSE NEIGHBOUR: 'it returns false'. Refute it at one input. -/
def routeBackWrong : ChangeSpec := { name := "routeBack", fn := fun _ => fun
  | [d1, d2] => { results := [.lit (.bool false)], args := [d1, d2] }
  | _ => none }
def RouteBackWrongFalsely : Prop := routeBackRow.holds Try.pinned (OpenSpec.ofChange routeBackWrong)

/-- 'dovecotelaw13.DelayDraws': WHATEVER THE INPUT: true; the input reads as it did. -/
def delayDrawsSpec : ChangeSpec := { name := "delayDraws", fn := fun _ => fun
  | [d1, d2, d3] => { results := [.lit (.bool true)], args := [d1, d2, d3] }
  | _ => none }
def delayDrawsRow : OpenClaim := { program := "ytdgbbfbgakeaaaa", sum := "b3c2f2361de83e7df8c951804651dbd7b3fa18f0b51499f94aeb31efdc78e19b", func := "dovecote/dovecotelaw13.DelayDraws", spec := "delayDraws", unfollowed := true, recurses := true, apart := false }
def DelayDrawsSaid : Prop := delayDrawsRow.holds Try.pinned (OpenSpec.ofChange delayDrawsSpec)

/-- ITS FALSE NEIGHBOUR: 'it returns false'. Refute it at one input. -/
def delayDrawsWrong : ChangeSpec := { name := "delayDraws", fn := fun _ => fun
  | [d1, d2, d3] => { results := [.lit (.bool false)], args := [d1, d2, d3] }
  | _ => none }
def DelayDrawsWrongFalsely : Prop := delayDrawsRow.holds Try.pinned (OpenSpec.ofChange delayDrawsWrong)

/-- 'dovecotelaw13.DelayOneByOne': WHATEVER THE INPUT: true; the input reads as it did. -/
def delayOneByOneSpec : ChangeSpec := { name := "delayOneByOne", fn := fun _ => fun
  | [d1, d2, d3] => { results := [.lit (.bool true)], args := [d1, d2, d3] }
  | _ => none }
def delayOneByOneRow : OpenClaim := { program := "ytdgbbfbgakeaaaa", sum := "b3c2f2361de83e7df8c951804651dbd7b3fa18f0b51499f94aeb31efdc78e19b", func := "dovecote/dovecotelaw13.DelayOneByOne", spec := "delayOneByOne", unfollowed := true, recurses := true, apart := false }
def DelayOneByOneSaid : Prop := delayOneByOneRow.holds Try.pinned (OpenSpec.ofChange delayOneByOneSpec)

/-- ITS FALSE NEIGHBOUR: 'it returns false'. Refute it at one input. -/
def delayOneByOneWrong : ChangeSpec := { name := "delayOneByOne", fn := fun _ => fun
  | [d1, d2, d3] => { results := [.lit (.bool false)], args := [d1, d2, d3] }
  | _ => none }
def DelayOneByOneWrongFalsely : Prop := delayOneByOneRow.holds Try.pinned (OpenSpec.ofChange delayOneByOneWrong)

/-- 'dovecotelaw24.TopoFinds': WHATEVER THE INPUT: true; the input reads as it did. -/
def topoFindsSpec : ChangeSpec := { name := "topoFinds", fn := fun _ => fun
  | [d1, d2] => { results := [.lit (.bool true)], args := [d1, d2] }
  | _ => none }
def topoFindsRow : OpenClaim := { program := "ytdgbbfbgakeaaaa", sum := "b3c2f2361de83e7df8c951804651dbd7b3fa18f0b51499f94aeb31efdc78e19b", func := "dovecote/dovecotelaw24.TopoFinds", spec := "topoFinds", unfollowed := true, recurses := true, apart := false }
def TopoFindsSaid : Prop := topoFindsRow.holds Try.pinned (OpenSpec.ofChange topoFindsSpec)

/-- ITS FALSE NEIGHBOUR: 'it returns false'. Refute it at one input. -/
def topoFindsWrong : ChangeSpec := { name := "topoFinds", fn := fun _ => fun
  | [d1, d2] => { results := [.lit (.bool false)], args := [d1, d2] }
  | _ => none }
def TopoFindsWrongFalsely : Prop := topoFindsRow.holds Try.pinned (OpenSpec.ofChange topoFindsWrong)

/-- 'dovecotelaw24.TopoWays': WHATEVER THE INPUT: true; the input reads as it did. -/
def topoWaysSpec : ChangeSpec := { name := "topoWays", fn := fun _ => fun
  | [d1, d2, d3] => { results := [.lit (.bool true)], args := [d1, d2, d3] }
  | _ => none }
def topoWaysRow : OpenClaim := { program := "ytdgbbfbgakeaaaa", sum := "b3c2f2361de83e7df8c951804651dbd7b3fa18f0b51499f94aeb31efdc78e19b", func := "dovecote/dovecotelaw24.TopoWays", spec := "topoWays", unfollowed := true, recurses := true, apart := false }
def TopoWaysSaid : Prop := topoWaysRow.holds Try.pinned (OpenSpec.ofChange topoWaysSpec)

/-- ITS FALSE NEIGHBOUR: 'it returns false'. Refute it at one input. -/
def topoWaysWrong : ChangeSpec := { name := "topoWays", fn := fun _ => fun
  | [d1, d2, d3] => { results := [.lit (.bool false)], args := [d1, d2, d3] }
  | _ => none }
def TopoWaysWrongFalsely : Prop := topoWaysRow.holds Try.pinned (OpenSpec.ofChange topoWaysWrong)

/-- 'dovecotelaw24.TopoLike': WHATEVER THE INPUT: true; the input reads as it did. -/
def topoLikeSpec : ChangeSpec := { name := "topoLike", fn := fun _ => fun
  | [d1, d2, d3] => { results := [.lit (.bool true)], args := [d1, d2, d3] }
  | _ => none }
def topoLikeRow : OpenClaim := { program := "ytdgbbfbgakeaaaa", sum := "b3c2f2361de83e7df8c951804651dbd7b3fa18f0b51499f94aeb31efdc78e19b", func := "dovecote/dovecotelaw24.TopoLike", spec := "topoLike", unfollowed := true, recurses := true, apart := false }
def TopoLikeSaid : Prop := topoLikeRow.holds Try.pinned (OpenSpec.ofChange topoLikeSpec)

/-- ITS FALSE NEIGHBOUR: 'it returns false'. Refute it at one input. -/
def topoLikeWrong : ChangeSpec := { name := "topoLike", fn := fun _ => fun
  | [d1, d2, d3] => { results := [.lit (.bool false)], args := [d1, d2, d3] }
  | _ => none }
def TopoLikeWrongFalsely : Prop := topoLikeRow.holds Try.pinned (OpenSpec.ofChange topoLikeWrong)

/-- 'dovecotelaw24.TopoPaths': WHATEVER THE INPUT: true; the input reads as it did. -/
def topoPathsSpec : ChangeSpec := { name := "topoPaths", fn := fun _ => fun
  | [d1, d2, d3] => { results := [.lit (.bool true)], args := [d1, d2, d3] }
  | _ => none }
def topoPathsRow : OpenClaim := { program := "ytdgbbfbgakeaaaa", sum := "b3c2f2361de83e7df8c951804651dbd7b3fa18f0b51499f94aeb31efdc78e19b", func := "dovecote/dovecotelaw24.TopoPaths", spec := "topoPaths", unfollowed := true, recurses := true, apart := false }
def TopoPathsSaid : Prop := topoPathsRow.holds Try.pinned (OpenSpec.ofChange topoPathsSpec)

/-- ITS FALSE NEIGHBOUR: 'it returns false'. Refute it at one input. -/
def topoPathsWrong : ChangeSpec := { name := "topoPaths", fn := fun _ => fun
  | [d1, d2, d3] => { results := [.lit (.bool false)], args := [d1, d2, d3] }
  | _ => none }
def TopoPathsWrongFalsely : Prop := topoPathsRow.holds Try.pinned (OpenSpec.ofChange topoPathsWrong)

/- THE SECOND FORM. 'bulk': how many values and letters a reading holds, each counted each time it is reached (what is shared counts as often as it is met; a slice's spare places count too). A statement '..UptoSaid' is the law's where the arguments, and the package variables that the reading takes, are together of bulk at most 1048576: NARROWER than '..Said'. Prove '..Said' where nothing that the law and all that it calls make is longer than what came in: it says more and counts as full. Else prove '..UptoSaid'. A law counts once. -/
mutual
def uptoBulk {H : Type} : DataW H → Nat
  | .lit (.string bytes) => bytes.length + 1
  | .lit _ => 1
  | .nil => 1
  | .ptr d => uptoBulk d + 1
  | .slice elems spare => uptoBulkAll elems + uptoBulkAll spare + 1
  | .agg parts => uptoBulkAll parts + 1
  | .iface _ d => uptoBulk d + 1
  | .map entries => uptoBulkEntries entries + 1
  | .held _ => 1
def uptoBulkAll {H : Type} : List (DataW H) → Nat
  | [] => 0
  | d :: r => uptoBulk d + uptoBulkAll r
def uptoBulkEntries {H : Type} : List (Lit × DataW H) → Nat
  | [] => 0
  | x :: r => uptoBulkEntry x + uptoBulkEntries r
def uptoBulkEntry {H : Type} : Lit × DataW H → Nat
  | (.string bytes, d) => bytes.length + uptoBulk d + 1
  | (_, d) => uptoBulk d + 1
 end
def uptoSmall : (H : Type) → List (DataW H) → Bool := fun _ ds => decide (uptoBulkAll ds ≤ 1048576)
def OpenSpec.upto (s : _root_.Go.ChangeSpec) : _root_.Go.OpenSpec := { _root_.Go.OpenSpec.ofChange s with cond := some uptoSmall }

/-- 'dovecotelaw12.TapeBelow', WHERE WHAT IT READS IS OF BULK AT MOST 1048576: true; the input reads as it did. -/
def tapeBelowUptoRow : OpenClaim := { program := "ytdgbbfbgakeaaaa", sum := "b3c2f2361de83e7df8c951804651dbd7b3fa18f0b51499f94aeb31efdc78e19b", func := "dovecote/dovecotelaw12.TapeBelow", spec := "tapeBelow", apart := false, narrowed := true }
def TapeBelowUptoSaid : Prop := tapeBelowUptoRow.holds Try.pinned (OpenSpec.upto tapeBelowSpec)

/-- 'dovecotelaw12.TapeReads', WHERE WHAT IT READS IS OF BULK AT MOST 1048576: true; the input reads as it did. -/
def tapeReadsUptoRow : OpenClaim := { program := "ytdgbbfbgakeaaaa", sum := "b3c2f2361de83e7df8c951804651dbd7b3fa18f0b51499f94aeb31efdc78e19b", func := "dovecote/dovecotelaw12.TapeReads", spec := "tapeReads", apart := false, narrowed := true }
def TapeReadsUptoSaid : Prop := tapeReadsUptoRow.holds Try.pinned (OpenSpec.upto tapeReadsSpec)

/-- 'dovecotelaw12.TapeForks', WHERE WHAT IT READS IS OF BULK AT MOST 1048576: true; the input reads as it did. -/
def tapeForksUptoRow : OpenClaim := { program := "ytdgbbfbgakeaaaa", sum := "b3c2f2361de83e7df8c951804651dbd7b3fa18f0b51499f94aeb31efdc78e19b", func := "dovecote/dovecotelaw12.TapeForks", spec := "tapeForks", apart := false, narrowed := true }
def TapeForksUptoSaid : Prop := tapeForksUptoRow.holds Try.pinned (OpenSpec.upto tapeForksSpec)

/-- 'dovecotelaw12.TapeOrders', WHERE WHAT IT READS IS OF BULK AT MOST 1048576: true; the input reads as it did. -/
def tapeOrdersUptoRow : OpenClaim := { program := "ytdgbbfbgakeaaaa", sum := "b3c2f2361de83e7df8c951804651dbd7b3fa18f0b51499f94aeb31efdc78e19b", func := "dovecote/dovecotelaw12.TapeOrders", spec := "tapeOrders", apart := false, narrowed := true }
def TapeOrdersUptoSaid : Prop := tapeOrdersUptoRow.holds Try.pinned (OpenSpec.upto tapeOrdersSpec)

/-- 'dovecotelaw13.DelayTables', WHERE WHAT IT READS IS OF BULK AT MOST 1048576: true; the input reads as it did. -/
def delayTablesUptoRow : OpenClaim := { program := "ytdgbbfbgakeaaaa", sum := "b3c2f2361de83e7df8c951804651dbd7b3fa18f0b51499f94aeb31efdc78e19b", func := "dovecote/dovecotelaw13.DelayTables", spec := "delayTables", unfollowed := true, recurses := true, apart := false, narrowed := true }
def DelayTablesUptoSaid : Prop := delayTablesUptoRow.holds Try.pinned (OpenSpec.upto delayTablesSpec)

/-- 'dovecotelaw13.DelayCounts', WHERE WHAT IT READS IS OF BULK AT MOST 1048576: true; the input reads as it did. -/
def delayCountsUptoRow : OpenClaim := { program := "ytdgbbfbgakeaaaa", sum := "b3c2f2361de83e7df8c951804651dbd7b3fa18f0b51499f94aeb31efdc78e19b", func := "dovecote/dovecotelaw13.DelayCounts", spec := "delayCounts", unfollowed := true, recurses := true, apart := false, narrowed := true }
def DelayCountsUptoSaid : Prop := delayCountsUptoRow.holds Try.pinned (OpenSpec.upto delayCountsSpec)

/-- 'dovecotelaw13.DelayFalls', WHERE WHAT IT READS IS OF BULK AT MOST 1048576: true; the input reads as it did. -/
def delayFallsUptoRow : OpenClaim := { program := "ytdgbbfbgakeaaaa", sum := "b3c2f2361de83e7df8c951804651dbd7b3fa18f0b51499f94aeb31efdc78e19b", func := "dovecote/dovecotelaw13.DelayFalls", spec := "delayFalls", unfollowed := true, recurses := true, apart := false, narrowed := true }
def DelayFallsUptoSaid : Prop := delayFallsUptoRow.holds Try.pinned (OpenSpec.upto delayFallsSpec)

/-- 'dovecotelaw12.TapePlays', WHERE WHAT IT READS IS OF BULK AT MOST 1048576: true; the input reads as it did. -/
def tapePlaysUptoRow : OpenClaim := { program := "ytdgbbfbgakeaaaa", sum := "b3c2f2361de83e7df8c951804651dbd7b3fa18f0b51499f94aeb31efdc78e19b", func := "dovecote/dovecotelaw12.TapePlays", spec := "tapePlays", apart := false, narrowed := true }
def TapePlaysUptoSaid : Prop := tapePlaysUptoRow.holds Try.pinned (OpenSpec.upto tapePlaysSpec)

/-- 'dovecotelaw07.RouteBytes', WHERE WHAT IT READS IS OF BULK AT MOST 1048576: true; the input reads as it did. -/
def routeBytesUptoRow : OpenClaim := { program := "ytdgbbfbgakeaaaa", sum := "b3c2f2361de83e7df8c951804651dbd7b3fa18f0b51499f94aeb31efdc78e19b", func := "dovecote/dovecotelaw07.RouteBytes", spec := "routeBytes", unfollowed := true, recurses := true, apart := false, narrowed := true }
def RouteBytesUptoSaid : Prop := routeBytesUptoRow.holds Try.pinned (OpenSpec.upto routeBytesSpec)

/-- 'dovecotelaw07.RoutePaths', WHERE WHAT IT READS IS OF BULK AT MOST 1048576: true; the input reads as it did. -/
def routePathsUptoRow : OpenClaim := { program := "ytdgbbfbgakeaaaa", sum := "b3c2f2361de83e7df8c951804651dbd7b3fa18f0b51499f94aeb31efdc78e19b", func := "dovecote/dovecotelaw07.RoutePaths", spec := "routePaths", unfollowed := true, recurses := true, apart := false, narrowed := true }
def RoutePathsUptoSaid : Prop := routePathsUptoRow.holds Try.pinned (OpenSpec.upto routePathsSpec)

/-- 'dovecotelaw07.RouteGrows', WHERE WHAT IT READS IS OF BULK AT MOST 1048576: true; the input reads as it did. -/
def routeGrowsUptoRow : OpenClaim := { program := "ytdgbbfbgakeaaaa", sum := "b3c2f2361de83e7df8c951804651dbd7b3fa18f0b51499f94aeb31efdc78e19b", func := "dovecote/dovecotelaw07.RouteGrows", spec := "routeGrows", unfollowed := true, recurses := true, apart := false, narrowed := true }
def RouteGrowsUptoSaid : Prop := routeGrowsUptoRow.holds Try.pinned (OpenSpec.upto routeGrowsSpec)

/-- 'dovecotelaw07.RouteLong', WHERE WHAT IT READS IS OF BULK AT MOST 1048576: true; the input reads as it did. -/
def routeLongUptoRow : OpenClaim := { program := "ytdgbbfbgakeaaaa", sum := "b3c2f2361de83e7df8c951804651dbd7b3fa18f0b51499f94aeb31efdc78e19b", func := "dovecote/dovecotelaw07.RouteLong", spec := "routeLong", unfollowed := true, recurses := true, apart := false, narrowed := true }
def RouteLongUptoSaid : Prop := routeLongUptoRow.holds Try.pinned (OpenSpec.upto routeLongSpec)

/-- 'dovecotelaw07.RouteReads', WHERE WHAT IT READS IS OF BULK AT MOST 1048576: true; the input reads as it did. -/
def routeReadsUptoRow : OpenClaim := { program := "ytdgbbfbgakeaaaa", sum := "b3c2f2361de83e7df8c951804651dbd7b3fa18f0b51499f94aeb31efdc78e19b", func := "dovecote/dovecotelaw07.RouteReads", spec := "routeReads", unfollowed := true, recurses := true, apart := false, narrowed := true }
def RouteReadsUptoSaid : Prop := routeReadsUptoRow.holds Try.pinned (OpenSpec.upto routeReadsSpec)

/-- 'dovecotelaw07.RouteBack', WHERE WHAT IT READS IS OF BULK AT MOST 1048576: true; the input reads as it did. -/
def routeBackUptoRow : OpenClaim := { program := "ytdgbbfbgakeaaaa", sum := "b3c2f2361de83e7df8c951804651dbd7b3fa18f0b51499f94aeb31efdc78e19b", func := "dovecote/dovecotelaw07.RouteBack", spec := "routeBack", unfollowed := true, recurses := true, apart := false, narrowed := true }
def RouteBackUptoSaid : Prop := routeBackUptoRow.holds Try.pinned (OpenSpec.upto routeBackSpec)

/-- 'dovecotelaw13.DelayDraws', WHERE WHAT IT READS IS OF BULK AT MOST 1048576: true; the input reads as it did. -/
def delayDrawsUptoRow : OpenClaim := { program := "ytdgbbfbgakeaaaa", sum := "b3c2f2361de83e7df8c951804651dbd7b3fa18f0b51499f94aeb31efdc78e19b", func := "dovecote/dovecotelaw13.DelayDraws", spec := "delayDraws", unfollowed := true, recurses := true, apart := false, narrowed := true }
def DelayDrawsUptoSaid : Prop := delayDrawsUptoRow.holds Try.pinned (OpenSpec.upto delayDrawsSpec)

/-- 'dovecotelaw13.DelayOneByOne', WHERE WHAT IT READS IS OF BULK AT MOST 1048576: true; the input reads as it did. -/
def delayOneByOneUptoRow : OpenClaim := { program := "ytdgbbfbgakeaaaa", sum := "b3c2f2361de83e7df8c951804651dbd7b3fa18f0b51499f94aeb31efdc78e19b", func := "dovecote/dovecotelaw13.DelayOneByOne", spec := "delayOneByOne", unfollowed := true, recurses := true, apart := false, narrowed := true }
def DelayOneByOneUptoSaid : Prop := delayOneByOneUptoRow.holds Try.pinned (OpenSpec.upto delayOneByOneSpec)

/-- 'dovecotelaw24.TopoFinds', WHERE WHAT IT READS IS OF BULK AT MOST 1048576: true; the input reads as it did. -/
def topoFindsUptoRow : OpenClaim := { program := "ytdgbbfbgakeaaaa", sum := "b3c2f2361de83e7df8c951804651dbd7b3fa18f0b51499f94aeb31efdc78e19b", func := "dovecote/dovecotelaw24.TopoFinds", spec := "topoFinds", unfollowed := true, recurses := true, apart := false, narrowed := true }
def TopoFindsUptoSaid : Prop := topoFindsUptoRow.holds Try.pinned (OpenSpec.upto topoFindsSpec)

/-- 'dovecotelaw24.TopoWays', WHERE WHAT IT READS IS OF BULK AT MOST 1048576: true; the input reads as it did. -/
def topoWaysUptoRow : OpenClaim := { program := "ytdgbbfbgakeaaaa", sum := "b3c2f2361de83e7df8c951804651dbd7b3fa18f0b51499f94aeb31efdc78e19b", func := "dovecote/dovecotelaw24.TopoWays", spec := "topoWays", unfollowed := true, recurses := true, apart := false, narrowed := true }
def TopoWaysUptoSaid : Prop := topoWaysUptoRow.holds Try.pinned (OpenSpec.upto topoWaysSpec)

/-- 'dovecotelaw24.TopoLike', WHERE WHAT IT READS IS OF BULK AT MOST 1048576: true; the input reads as it did. -/
def topoLikeUptoRow : OpenClaim := { program := "ytdgbbfbgakeaaaa", sum := "b3c2f2361de83e7df8c951804651dbd7b3fa18f0b51499f94aeb31efdc78e19b", func := "dovecote/dovecotelaw24.TopoLike", spec := "topoLike", unfollowed := true, recurses := true, apart := false, narrowed := true }
def TopoLikeUptoSaid : Prop := topoLikeUptoRow.holds Try.pinned (OpenSpec.upto topoLikeSpec)

/-- 'dovecotelaw24.TopoPaths', WHERE WHAT IT READS IS OF BULK AT MOST 1048576: true; the input reads as it did. -/
def topoPathsUptoRow : OpenClaim := { program := "ytdgbbfbgakeaaaa", sum := "b3c2f2361de83e7df8c951804651dbd7b3fa18f0b51499f94aeb31efdc78e19b", func := "dovecote/dovecotelaw24.TopoPaths", spec := "topoPaths", unfollowed := true, recurses := true, apart := false, narrowed := true }
def TopoPathsUptoSaid : Prop := topoPathsUptoRow.holds Try.pinned (OpenSpec.upto topoPathsSpec)

end Rows
end Go.Proofs.Ytdgbbfbgakeaaaa
