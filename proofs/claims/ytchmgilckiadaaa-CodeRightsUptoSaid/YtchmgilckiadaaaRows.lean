/-
  No cell of these rows narrows 'for every input' (looked for: loops, veiled, ifaces, maps, wideKeys, modest, calm, conditions, laid).
  DERIVED. THE GIVEN ROWS OF THIS SEAT. 22 by the template 'for every input the law returns true; each argument reads behind the call as it read before'; 0 by the template 'total and deterministic' (their statements: YtchmgilckiadaaaTotals.lean).
  GIVEN WITH THE SEED: the statements are not yours to turn. If you find one false, say at which input.
  Laid BY PROGRAM, IN A SANDBOX (cutbox-rows.mjs): the forced cells as the released guide's own fill.sh prints them over the translation 26aa50904ca3f1b4… (all of the seat's roots in one cut). By AI agents, Wed Nov 11 2026. No macro, syntax, notation, axiom, sorry.
-/
import Derived.Test.YtchmgilckiadaaaChecked
import GoSem.Claim
import GoSem.ClaimJoined
import GoSem.ClaimMapViews
import Derived.JoinedTies
import Derived.KernelRfl
namespace Go.Proofs.Ytchmgilckiadaaa
/- THE CELL 'sum', in the pinned program and in every row, IS THE sha256 OF THE DUMP (.gsa) THAT YtchmgilckiadaaaProg.lean LOADS. Nothing in Lean hashes anything: it is a label: what it is worth is what the hold of that sum in a sandbox is worth. -/
noncomputable def Try.pinned : Pinned := { name := "ytchmgilckiadaaa", sum := "26aa50904ca3f1b4dcca17f4432c76b5e6c185fd55904d4be72616b0174bfd9d", checked := Try.checked }
namespace Rows
def none {H : Type} : Left H := { results := [], args := [] }

/-- 'weighhouselaw09.BoundParts': WHATEVER THE INPUT: true; the input reads as it did. -/
def boundPartsSpec : ChangeSpec := { name := "boundParts", fn := fun _ => fun
  | [d1, d2] => { results := [.lit (.bool true)], args := [d1, d2] }
  | _ => none }
def boundPartsRow : OpenClaim := { program := "ytchmgilckiadaaa", sum := "26aa50904ca3f1b4dcca17f4432c76b5e6c185fd55904d4be72616b0174bfd9d", func := "weighhouse/weighhouselaw09.BoundParts", spec := "boundParts", unfollowed := true, recurses := true, apart := false }
def BoundPartsSaid : Prop := boundPartsRow.holds Try.pinned (OpenSpec.ofChange boundPartsSpec)

/-- ITS FALSE NEIGHBOUR: 'it returns false'. Refute it at one input. -/
def boundPartsWrong : ChangeSpec := { name := "boundParts", fn := fun _ => fun
  | [d1, d2] => { results := [.lit (.bool false)], args := [d1, d2] }
  | _ => none }
def BoundPartsWrongFalsely : Prop := boundPartsRow.holds Try.pinned (OpenSpec.ofChange boundPartsWrong)

/-- 'weighhouselaw09.BoundMore': WHATEVER THE INPUT: true; the input reads as it did. -/
def boundMoreSpec : ChangeSpec := { name := "boundMore", fn := fun _ => fun
  | [d1, d2, d3, d4] => { results := [.lit (.bool true)], args := [d1, d2, d3, d4] }
  | _ => none }
def boundMoreRow : OpenClaim := { program := "ytchmgilckiadaaa", sum := "26aa50904ca3f1b4dcca17f4432c76b5e6c185fd55904d4be72616b0174bfd9d", func := "weighhouse/weighhouselaw09.BoundMore", spec := "boundMore", unfollowed := true, recurses := true, apart := false }
def BoundMoreSaid : Prop := boundMoreRow.holds Try.pinned (OpenSpec.ofChange boundMoreSpec)

/-- ITS FALSE NEIGHBOUR: 'it returns false'. Refute it at one input. -/
def boundMoreWrong : ChangeSpec := { name := "boundMore", fn := fun _ => fun
  | [d1, d2, d3, d4] => { results := [.lit (.bool false)], args := [d1, d2, d3, d4] }
  | _ => none }
def BoundMoreWrongFalsely : Prop := boundMoreRow.holds Try.pinned (OpenSpec.ofChange boundMoreWrong)

/-- 'weighhouselaw09.BoundTogether': WHATEVER THE INPUT: true; the input reads as it did. -/
def boundTogetherSpec : ChangeSpec := { name := "boundTogether", fn := fun _ => fun
  | [d1, d2, d3] => { results := [.lit (.bool true)], args := [d1, d2, d3] }
  | _ => none }
def boundTogetherRow : OpenClaim := { program := "ytchmgilckiadaaa", sum := "26aa50904ca3f1b4dcca17f4432c76b5e6c185fd55904d4be72616b0174bfd9d", func := "weighhouse/weighhouselaw09.BoundTogether", spec := "boundTogether", unfollowed := true, recurses := true, apart := false }
def BoundTogetherSaid : Prop := boundTogetherRow.holds Try.pinned (OpenSpec.ofChange boundTogetherSpec)

/-- ITS FALSE NEIGHBOUR: 'it returns false'. Refute it at one input. -/
def boundTogetherWrong : ChangeSpec := { name := "boundTogether", fn := fun _ => fun
  | [d1, d2, d3] => { results := [.lit (.bool false)], args := [d1, d2, d3] }
  | _ => none }
def BoundTogetherWrongFalsely : Prop := boundTogetherRow.holds Try.pinned (OpenSpec.ofChange boundTogetherWrong)

/-- 'weighhouselaw09.BoundTurns': WHATEVER THE INPUT: true; the input reads as it did. -/
def boundTurnsSpec : ChangeSpec := { name := "boundTurns", fn := fun _ => fun
  | [d1, d2, d3] => { results := [.lit (.bool true)], args := [d1, d2, d3] }
  | _ => none }
def boundTurnsRow : OpenClaim := { program := "ytchmgilckiadaaa", sum := "26aa50904ca3f1b4dcca17f4432c76b5e6c185fd55904d4be72616b0174bfd9d", func := "weighhouse/weighhouselaw09.BoundTurns", spec := "boundTurns", unfollowed := true, recurses := true, apart := false }
def BoundTurnsSaid : Prop := boundTurnsRow.holds Try.pinned (OpenSpec.ofChange boundTurnsSpec)

/-- ITS FALSE NEIGHBOUR: 'it returns false'. Refute it at one input. -/
def boundTurnsWrong : ChangeSpec := { name := "boundTurns", fn := fun _ => fun
  | [d1, d2, d3] => { results := [.lit (.bool false)], args := [d1, d2, d3] }
  | _ => none }
def BoundTurnsWrongFalsely : Prop := boundTurnsRow.holds Try.pinned (OpenSpec.ofChange boundTurnsWrong)

/-- 'weighhouselaw09.BoundCallees': WHATEVER THE INPUT: true; the input reads as it did. -/
def boundCalleesSpec : ChangeSpec := { name := "boundCallees", fn := fun _ => fun
  | [d1, d2, d3, d4] => { results := [.lit (.bool true)], args := [d1, d2, d3, d4] }
  | _ => none }
def boundCalleesRow : OpenClaim := { program := "ytchmgilckiadaaa", sum := "26aa50904ca3f1b4dcca17f4432c76b5e6c185fd55904d4be72616b0174bfd9d", func := "weighhouse/weighhouselaw09.BoundCallees", spec := "boundCallees", unfollowed := true, recurses := true, apart := false }
def BoundCalleesSaid : Prop := boundCalleesRow.holds Try.pinned (OpenSpec.ofChange boundCalleesSpec)

/-- ITS FALSE NEIGHBOUR: 'it returns false'. Refute it at one input. -/
def boundCalleesWrong : ChangeSpec := { name := "boundCallees", fn := fun _ => fun
  | [d1, d2, d3, d4] => { results := [.lit (.bool false)], args := [d1, d2, d3, d4] }
  | _ => none }
def BoundCalleesWrongFalsely : Prop := boundCalleesRow.holds Try.pinned (OpenSpec.ofChange boundCalleesWrong)

/-- 'weighhouselaw04.CodeApart': WHATEVER THE INPUT: true; the input reads as it did. -/
def codeApartSpec : ChangeSpec := { name := "codeApart", fn := fun _ => fun
  | [d1, d2] => { results := [.lit (.bool true)], args := [d1, d2] }
  | _ => none }
def codeApartRow : OpenClaim := { program := "ytchmgilckiadaaa", sum := "26aa50904ca3f1b4dcca17f4432c76b5e6c185fd55904d4be72616b0174bfd9d", func := "weighhouse/weighhouselaw04.CodeApart", spec := "codeApart", unfollowed := true, recurses := true, apart := false }
def CodeApartSaid : Prop := codeApartRow.holds Try.pinned (OpenSpec.ofChange codeApartSpec)

/-- ITS FALSE NEIGHBOUR: 'it returns false'. Refute it at one input. -/
def codeApartWrong : ChangeSpec := { name := "codeApart", fn := fun _ => fun
  | [d1, d2] => { results := [.lit (.bool false)], args := [d1, d2] }
  | _ => none }
def CodeApartWrongFalsely : Prop := codeApartRow.holds Try.pinned (OpenSpec.ofChange codeApartWrong)

/-- 'weighhouselaw04.CodeRights': WHATEVER THE INPUT: true; the input reads as it did. -/
def codeRightsSpec : ChangeSpec := { name := "codeRights", fn := fun _ => fun
  | [d] => { results := [.lit (.bool true)], args := [d] }
  | _ => none }
def codeRightsRow : OpenClaim := { program := "ytchmgilckiadaaa", sum := "26aa50904ca3f1b4dcca17f4432c76b5e6c185fd55904d4be72616b0174bfd9d", func := "weighhouse/weighhouselaw04.CodeRights", spec := "codeRights", unfollowed := true, recurses := true, apart := false }
def CodeRightsSaid : Prop := codeRightsRow.holds Try.pinned (OpenSpec.ofChange codeRightsSpec)

/-- ITS FALSE NEIGHBOUR: 'it returns false'. Refute it at one input. -/
def codeRightsWrong : ChangeSpec := { name := "codeRights", fn := fun _ => fun
  | [d] => { results := [.lit (.bool false)], args := [d] }
  | _ => none }
def CodeRightsWrongFalsely : Prop := codeRightsRow.holds Try.pinned (OpenSpec.ofChange codeRightsWrong)

/-- 'weighhouselaw04.CodeSames': WHATEVER THE INPUT: true; the input reads as it did. -/
def codeSamesSpec : ChangeSpec := { name := "codeSames", fn := fun _ => fun
  | [d1, d2] => { results := [.lit (.bool true)], args := [d1, d2] }
  | _ => none }
def codeSamesRow : OpenClaim := { program := "ytchmgilckiadaaa", sum := "26aa50904ca3f1b4dcca17f4432c76b5e6c185fd55904d4be72616b0174bfd9d", func := "weighhouse/weighhouselaw04.CodeSames", spec := "codeSames", unfollowed := true, recurses := true, apart := false }
def CodeSamesSaid : Prop := codeSamesRow.holds Try.pinned (OpenSpec.ofChange codeSamesSpec)

/-- ITS FALSE NEIGHBOUR: 'it returns false'. Refute it at one input. -/
def codeSamesWrong : ChangeSpec := { name := "codeSames", fn := fun _ => fun
  | [d1, d2] => { results := [.lit (.bool false)], args := [d1, d2] }
  | _ => none }
def CodeSamesWrongFalsely : Prop := codeSamesRow.holds Try.pinned (OpenSpec.ofChange codeSamesWrong)

/-- 'weighhouselaw04.CodeBytes': WHATEVER THE INPUT: true; the input reads as it did. -/
def codeBytesSpec : ChangeSpec := { name := "codeBytes", fn := fun _ => fun
  | [d1, d2] => { results := [.lit (.bool true)], args := [d1, d2] }
  | _ => none }
def codeBytesRow : OpenClaim := { program := "ytchmgilckiadaaa", sum := "26aa50904ca3f1b4dcca17f4432c76b5e6c185fd55904d4be72616b0174bfd9d", func := "weighhouse/weighhouselaw04.CodeBytes", spec := "codeBytes", unfollowed := true, recurses := true, apart := false }
def CodeBytesSaid : Prop := codeBytesRow.holds Try.pinned (OpenSpec.ofChange codeBytesSpec)

/-- ITS FALSE NEIGHBOUR: 'it returns false'. Refute it at one input. -/
def codeBytesWrong : ChangeSpec := { name := "codeBytes", fn := fun _ => fun
  | [d1, d2] => { results := [.lit (.bool false)], args := [d1, d2] }
  | _ => none }
def CodeBytesWrongFalsely : Prop := codeBytesRow.holds Try.pinned (OpenSpec.ofChange codeBytesWrong)

/-- 'weighhouselaw04.CodeBack': WHATEVER THE INPUT: true; the input reads as it did. -/
def codeBackSpec : ChangeSpec := { name := "codeBack", fn := fun _ => fun
  | [d1, d2] => { results := [.lit (.bool true)], args := [d1, d2] }
  | _ => none }
def codeBackRow : OpenClaim := { program := "ytchmgilckiadaaa", sum := "26aa50904ca3f1b4dcca17f4432c76b5e6c185fd55904d4be72616b0174bfd9d", func := "weighhouse/weighhouselaw04.CodeBack", spec := "codeBack", unfollowed := true, recurses := true, apart := false }
def CodeBackSaid : Prop := codeBackRow.holds Try.pinned (OpenSpec.ofChange codeBackSpec)

/-- ITS FALSE NEIGHBOUR: 'it returns false'. Refute it at one input. -/
def codeBackWrong : ChangeSpec := { name := "codeBack", fn := fun _ => fun
  | [d1, d2] => { results := [.lit (.bool false)], args := [d1, d2] }
  | _ => none }
def CodeBackWrongFalsely : Prop := codeBackRow.holds Try.pinned (OpenSpec.ofChange codeBackWrong)

/-- 'weighhouselaw04.CodeCut': WHATEVER THE INPUT: true; the input reads as it did. -/
def codeCutSpec : ChangeSpec := { name := "codeCut", fn := fun _ => fun
  | [d1, d2] => { results := [.lit (.bool true)], args := [d1, d2] }
  | _ => none }
def codeCutRow : OpenClaim := { program := "ytchmgilckiadaaa", sum := "26aa50904ca3f1b4dcca17f4432c76b5e6c185fd55904d4be72616b0174bfd9d", func := "weighhouse/weighhouselaw04.CodeCut", spec := "codeCut", unfollowed := true, recurses := true, apart := false }
def CodeCutSaid : Prop := codeCutRow.holds Try.pinned (OpenSpec.ofChange codeCutSpec)

/-- ITS FALSE NEIGHBOUR: 'it returns false'. Refute it at one input. -/
def codeCutWrong : ChangeSpec := { name := "codeCut", fn := fun _ => fun
  | [d1, d2] => { results := [.lit (.bool false)], args := [d1, d2] }
  | _ => none }
def CodeCutWrongFalsely : Prop := codeCutRow.holds Try.pinned (OpenSpec.ofChange codeCutWrong)

/-- 'weighhouselaw07.TypesChecks': WHATEVER THE INPUT: true; the input reads as it did. -/
def typesChecksSpec : ChangeSpec := { name := "typesChecks", fn := fun _ => fun
  | [d1, d2] => { results := [.lit (.bool true)], args := [d1, d2] }
  | _ => none }
def typesChecksRow : OpenClaim := { program := "ytchmgilckiadaaa", sum := "26aa50904ca3f1b4dcca17f4432c76b5e6c185fd55904d4be72616b0174bfd9d", func := "weighhouse/weighhouselaw07.TypesChecks", spec := "typesChecks", unfollowed := true, recurses := true, apart := false }
def TypesChecksSaid : Prop := typesChecksRow.holds Try.pinned (OpenSpec.ofChange typesChecksSpec)

/-- ITS FALSE NEIGHBOUR: 'it returns false'. Refute it at one input. -/
def typesChecksWrong : ChangeSpec := { name := "typesChecks", fn := fun _ => fun
  | [d1, d2] => { results := [.lit (.bool false)], args := [d1, d2] }
  | _ => none }
def TypesChecksWrongFalsely : Prop := typesChecksRow.holds Try.pinned (OpenSpec.ofChange typesChecksWrong)

/-- 'weighhouselaw07.TypesAll': WHATEVER THE INPUT: true; the input reads as it did. -/
def typesAllSpec : ChangeSpec := { name := "typesAll", fn := fun _ => fun
  | [d1, d2, d3] => { results := [.lit (.bool true)], args := [d1, d2, d3] }
  | _ => none }
def typesAllRow : OpenClaim := { program := "ytchmgilckiadaaa", sum := "26aa50904ca3f1b4dcca17f4432c76b5e6c185fd55904d4be72616b0174bfd9d", func := "weighhouse/weighhouselaw07.TypesAll", spec := "typesAll", unfollowed := true, recurses := true, apart := false }
def TypesAllSaid : Prop := typesAllRow.holds Try.pinned (OpenSpec.ofChange typesAllSpec)

/-- ITS FALSE NEIGHBOUR: 'it returns false'. Refute it at one input. -/
def typesAllWrong : ChangeSpec := { name := "typesAll", fn := fun _ => fun
  | [d1, d2, d3] => { results := [.lit (.bool false)], args := [d1, d2, d3] }
  | _ => none }
def TypesAllWrongFalsely : Prop := typesAllRow.holds Try.pinned (OpenSpec.ofChange typesAllWrong)

/-- 'weighhouselaw07.TypesSame': WHATEVER THE INPUT: true; the input reads as it did. -/
def typesSameSpec : ChangeSpec := { name := "typesSame", fn := fun _ => fun
  | [d1, d2, d3] => { results := [.lit (.bool true)], args := [d1, d2, d3] }
  | _ => none }
def typesSameRow : OpenClaim := { program := "ytchmgilckiadaaa", sum := "26aa50904ca3f1b4dcca17f4432c76b5e6c185fd55904d4be72616b0174bfd9d", func := "weighhouse/weighhouselaw07.TypesSame", spec := "typesSame", unfollowed := true, recurses := true, apart := false }
def TypesSameSaid : Prop := typesSameRow.holds Try.pinned (OpenSpec.ofChange typesSameSpec)

/-- ITS FALSE NEIGHBOUR: 'it returns false'. Refute it at one input. -/
def typesSameWrong : ChangeSpec := { name := "typesSame", fn := fun _ => fun
  | [d1, d2, d3] => { results := [.lit (.bool false)], args := [d1, d2, d3] }
  | _ => none }
def TypesSameWrongFalsely : Prop := typesSameRow.holds Try.pinned (OpenSpec.ofChange typesSameWrong)

/-- 'weighhouselaw07.TypesMore': WHATEVER THE INPUT: true; the input reads as it did. -/
def typesMoreSpec : ChangeSpec := { name := "typesMore", fn := fun _ => fun
  | [d1, d2] => { results := [.lit (.bool true)], args := [d1, d2] }
  | _ => none }
def typesMoreRow : OpenClaim := { program := "ytchmgilckiadaaa", sum := "26aa50904ca3f1b4dcca17f4432c76b5e6c185fd55904d4be72616b0174bfd9d", func := "weighhouse/weighhouselaw07.TypesMore", spec := "typesMore", unfollowed := true, recurses := true, apart := false }
def TypesMoreSaid : Prop := typesMoreRow.holds Try.pinned (OpenSpec.ofChange typesMoreSpec)

/-- ITS FALSE NEIGHBOUR: 'it returns false'. Refute it at one input. -/
def typesMoreWrong : ChangeSpec := { name := "typesMore", fn := fun _ => fun
  | [d1, d2] => { results := [.lit (.bool false)], args := [d1, d2] }
  | _ => none }
def TypesMoreWrongFalsely : Prop := typesMoreRow.holds Try.pinned (OpenSpec.ofChange typesMoreWrong)

/-- 'weighhouselaw07.TypesWays': WHATEVER THE INPUT: true; the input reads as it did. -/
def typesWaysSpec : ChangeSpec := { name := "typesWays", fn := fun _ => fun
  | [d1, d2] => { results := [.lit (.bool true)], args := [d1, d2] }
  | _ => none }
def typesWaysRow : OpenClaim := { program := "ytchmgilckiadaaa", sum := "26aa50904ca3f1b4dcca17f4432c76b5e6c185fd55904d4be72616b0174bfd9d", func := "weighhouse/weighhouselaw07.TypesWays", spec := "typesWays", unfollowed := true, recurses := true, apart := false }
def TypesWaysSaid : Prop := typesWaysRow.holds Try.pinned (OpenSpec.ofChange typesWaysSpec)

/-- ITS FALSE NEIGHBOUR: 'it returns false'. Refute it at one input. -/
def typesWaysWrong : ChangeSpec := { name := "typesWays", fn := fun _ => fun
  | [d1, d2] => { results := [.lit (.bool false)], args := [d1, d2] }
  | _ => none }
def TypesWaysWrongFalsely : Prop := typesWaysRow.holds Try.pinned (OpenSpec.ofChange typesWaysWrong)

/-- 'weighhouselaw08.CallsOrders': WHATEVER THE INPUT: true; the input reads as it did. -/
def callsOrdersSpec : ChangeSpec := { name := "callsOrders", fn := fun _ => fun
  | [d] => { results := [.lit (.bool true)], args := [d] }
  | _ => none }
def callsOrdersRow : OpenClaim := { program := "ytchmgilckiadaaa", sum := "26aa50904ca3f1b4dcca17f4432c76b5e6c185fd55904d4be72616b0174bfd9d", func := "weighhouse/weighhouselaw08.CallsOrders", spec := "callsOrders", unfollowed := true, recurses := true, apart := false }
def CallsOrdersSaid : Prop := callsOrdersRow.holds Try.pinned (OpenSpec.ofChange callsOrdersSpec)

/-- ITS FALSE NEIGHBOUR: 'it returns false'. Refute it at one input. -/
def callsOrdersWrong : ChangeSpec := { name := "callsOrders", fn := fun _ => fun
  | [d] => { results := [.lit (.bool false)], args := [d] }
  | _ => none }
def CallsOrdersWrongFalsely : Prop := callsOrdersRow.holds Try.pinned (OpenSpec.ofChange callsOrdersWrong)

/-- 'weighhouselaw08.CallsBehind': WHATEVER THE INPUT: true; the input reads as it did. -/
def callsBehindSpec : ChangeSpec := { name := "callsBehind", fn := fun _ => fun
  | [d] => { results := [.lit (.bool true)], args := [d] }
  | _ => none }
def callsBehindRow : OpenClaim := { program := "ytchmgilckiadaaa", sum := "26aa50904ca3f1b4dcca17f4432c76b5e6c185fd55904d4be72616b0174bfd9d", func := "weighhouse/weighhouselaw08.CallsBehind", spec := "callsBehind", unfollowed := true, recurses := true, apart := false }
def CallsBehindSaid : Prop := callsBehindRow.holds Try.pinned (OpenSpec.ofChange callsBehindSpec)

/-- ITS FALSE NEIGHBOUR: 'it returns false'. Refute it at one input. -/
def callsBehindWrong : ChangeSpec := { name := "callsBehind", fn := fun _ => fun
  | [d] => { results := [.lit (.bool false)], args := [d] }
  | _ => none }
def CallsBehindWrongFalsely : Prop := callsBehindRow.holds Try.pinned (OpenSpec.ofChange callsBehindWrong)

/-- 'weighhouselaw08.CallsGraphs': WHATEVER THE INPUT: true; the input reads as it did. -/
def callsGraphsSpec : ChangeSpec := { name := "callsGraphs", fn := fun _ => fun
  | [d1, d2] => { results := [.lit (.bool true)], args := [d1, d2] }
  | _ => none }
def callsGraphsRow : OpenClaim := { program := "ytchmgilckiadaaa", sum := "26aa50904ca3f1b4dcca17f4432c76b5e6c185fd55904d4be72616b0174bfd9d", func := "weighhouse/weighhouselaw08.CallsGraphs", spec := "callsGraphs", unfollowed := true, recurses := true, apart := false }
def CallsGraphsSaid : Prop := callsGraphsRow.holds Try.pinned (OpenSpec.ofChange callsGraphsSpec)

/-- ITS FALSE NEIGHBOUR: 'it returns false'. Refute it at one input. -/
def callsGraphsWrong : ChangeSpec := { name := "callsGraphs", fn := fun _ => fun
  | [d1, d2] => { results := [.lit (.bool false)], args := [d1, d2] }
  | _ => none }
def CallsGraphsWrongFalsely : Prop := callsGraphsRow.holds Try.pinned (OpenSpec.ofChange callsGraphsWrong)

/-- 'weighhouselaw08.CallsRound': WHATEVER THE INPUT: true; the input reads as it did. -/
def callsRoundSpec : ChangeSpec := { name := "callsRound", fn := fun _ => fun
  | [d] => { results := [.lit (.bool true)], args := [d] }
  | _ => none }
def callsRoundRow : OpenClaim := { program := "ytchmgilckiadaaa", sum := "26aa50904ca3f1b4dcca17f4432c76b5e6c185fd55904d4be72616b0174bfd9d", func := "weighhouse/weighhouselaw08.CallsRound", spec := "callsRound", unfollowed := true, recurses := true, apart := false }
def CallsRoundSaid : Prop := callsRoundRow.holds Try.pinned (OpenSpec.ofChange callsRoundSpec)

/-- ITS FALSE NEIGHBOUR: 'it returns false'. Refute it at one input. -/
def callsRoundWrong : ChangeSpec := { name := "callsRound", fn := fun _ => fun
  | [d] => { results := [.lit (.bool false)], args := [d] }
  | _ => none }
def CallsRoundWrongFalsely : Prop := callsRoundRow.holds Try.pinned (OpenSpec.ofChange callsRoundWrong)

/-- 'weighhouselaw08.CallsReach': WHATEVER THE INPUT: true; the input reads as it did. -/
def callsReachSpec : ChangeSpec := { name := "callsReach", fn := fun _ => fun
  | [d1, d2] => { results := [.lit (.bool true)], args := [d1, d2] }
  | _ => none }
def callsReachRow : OpenClaim := { program := "ytchmgilckiadaaa", sum := "26aa50904ca3f1b4dcca17f4432c76b5e6c185fd55904d4be72616b0174bfd9d", func := "weighhouse/weighhouselaw08.CallsReach", spec := "callsReach", unfollowed := true, recurses := true, apart := false }
def CallsReachSaid : Prop := callsReachRow.holds Try.pinned (OpenSpec.ofChange callsReachSpec)

/-- ITS FALSE NEIGHBOUR: 'it returns false'. Refute it at one input. -/
def callsReachWrong : ChangeSpec := { name := "callsReach", fn := fun _ => fun
  | [d1, d2] => { results := [.lit (.bool false)], args := [d1, d2] }
  | _ => none }
def CallsReachWrongFalsely : Prop := callsReachRow.holds Try.pinned (OpenSpec.ofChange callsReachWrong)

/-- 'weighhouselaw09.BoundFuncs': WHATEVER THE INPUT: true; the input reads as it did. -/
def boundFuncsSpec : ChangeSpec := { name := "boundFuncs", fn := fun _ => fun
  | [d] => { results := [.lit (.bool true)], args := [d] }
  | _ => none }
def boundFuncsRow : OpenClaim := { program := "ytchmgilckiadaaa", sum := "26aa50904ca3f1b4dcca17f4432c76b5e6c185fd55904d4be72616b0174bfd9d", func := "weighhouse/weighhouselaw09.BoundFuncs", spec := "boundFuncs", unfollowed := true, recurses := true, apart := false }
def BoundFuncsSaid : Prop := boundFuncsRow.holds Try.pinned (OpenSpec.ofChange boundFuncsSpec)

/-- ITS FALSE NEIGHBOUR: 'it returns false'. Refute it at one input. -/
def boundFuncsWrong : ChangeSpec := { name := "boundFuncs", fn := fun _ => fun
  | [d] => { results := [.lit (.bool false)], args := [d] }
  | _ => none }
def BoundFuncsWrongFalsely : Prop := boundFuncsRow.holds Try.pinned (OpenSpec.ofChange boundFuncsWrong)

/- THE SECOND FORM. 'bulk': how many values and letters a reading holds, each counted each time it is reached (what is shared counts as often as it is met; a slice's spare places count too). A statement '..UptoSaid' is the law's where the arguments, and the package variables that the reading takes, are together of bulk at most 1048576: NARROWER than '..Said'. Prove '..Said' where nothing that the law and all that it calls make is longer than what came in: it says more and counts as full. Else prove '..UptoSaid'. A law counts once. -/
mutual
def uptoBulk {H : Type} : DataW H → Nat
  | .lit (.string bytes) => bytes.length + 1
  | .lit _ => 1
  | .nil => 1
  | .ptr d => uptoBulk d + 1
  | .slice elems spare => uptoBulkAll elems + uptoBulkAll spare + 1
  | .agg parts => uptoBulkAll parts + 1
  | .iface _ d => uptoBulk d + 1
  | .map entries => uptoBulkEntries entries + 1
  | .held _ => 1
def uptoBulkAll {H : Type} : List (DataW H) → Nat
  | [] => 0
  | d :: r => uptoBulk d + uptoBulkAll r
def uptoBulkEntries {H : Type} : List (Lit × DataW H) → Nat
  | [] => 0
  | x :: r => uptoBulkEntry x + uptoBulkEntries r
def uptoBulkEntry {H : Type} : Lit × DataW H → Nat
  | (.string bytes, d) => bytes.length + uptoBulk d + 1
  | (_, d) => uptoBulk d + 1
 end
def uptoSmall : (H : Type) → List (DataW H) → Bool := fun _ ds => decide (uptoBulkAll ds ≤ 1048576)
def OpenSpec.upto (s : _root_.Go.ChangeSpec) : _root_.Go.OpenSpec := { _root_.Go.OpenSpec.ofChange s with cond := some uptoSmall }

/-- 'weighhouselaw09.BoundParts', WHERE WHAT IT READS IS OF BULK AT MOST 1048576: true; the input reads as it did. -/
def boundPartsUptoRow : OpenClaim := { program := "ytchmgilckiadaaa", sum := "26aa50904ca3f1b4dcca17f4432c76b5e6c185fd55904d4be72616b0174bfd9d", func := "weighhouse/weighhouselaw09.BoundParts", spec := "boundParts", unfollowed := true, recurses := true, apart := false, narrowed := true }
def BoundPartsUptoSaid : Prop := boundPartsUptoRow.holds Try.pinned (OpenSpec.upto boundPartsSpec)

/-- 'weighhouselaw09.BoundMore', WHERE WHAT IT READS IS OF BULK AT MOST 1048576: true; the input reads as it did. -/
def boundMoreUptoRow : OpenClaim := { program := "ytchmgilckiadaaa", sum := "26aa50904ca3f1b4dcca17f4432c76b5e6c185fd55904d4be72616b0174bfd9d", func := "weighhouse/weighhouselaw09.BoundMore", spec := "boundMore", unfollowed := true, recurses := true, apart := false, narrowed := true }
def BoundMoreUptoSaid : Prop := boundMoreUptoRow.holds Try.pinned (OpenSpec.upto boundMoreSpec)

/-- 'weighhouselaw09.BoundTogether', WHERE WHAT IT READS IS OF BULK AT MOST 1048576: true; the input reads as it did. -/
def boundTogetherUptoRow : OpenClaim := { program := "ytchmgilckiadaaa", sum := "26aa50904ca3f1b4dcca17f4432c76b5e6c185fd55904d4be72616b0174bfd9d", func := "weighhouse/weighhouselaw09.BoundTogether", spec := "boundTogether", unfollowed := true, recurses := true, apart := false, narrowed := true }
def BoundTogetherUptoSaid : Prop := boundTogetherUptoRow.holds Try.pinned (OpenSpec.upto boundTogetherSpec)

/-- 'weighhouselaw09.BoundTurns', WHERE WHAT IT READS IS OF BULK AT MOST 1048576: true; the input reads as it did. -/
def boundTurnsUptoRow : OpenClaim := { program := "ytchmgilckiadaaa", sum := "26aa50904ca3f1b4dcca17f4432c76b5e6c185fd55904d4be72616b0174bfd9d", func := "weighhouse/weighhouselaw09.BoundTurns", spec := "boundTurns", unfollowed := true, recurses := true, apart := false, narrowed := true }
def BoundTurnsUptoSaid : Prop := boundTurnsUptoRow.holds Try.pinned (OpenSpec.upto boundTurnsSpec)

/-- 'weighhouselaw09.BoundCallees', WHERE WHAT IT READS IS OF BULK AT MOST 1048576: true; the input reads as it did. -/
def boundCalleesUptoRow : OpenClaim := { program := "ytchmgilckiadaaa", sum := "26aa50904ca3f1b4dcca17f4432c76b5e6c185fd55904d4be72616b0174bfd9d", func := "weighhouse/weighhouselaw09.BoundCallees", spec := "boundCallees", unfollowed := true, recurses := true, apart := false, narrowed := true }
def BoundCalleesUptoSaid : Prop := boundCalleesUptoRow.holds Try.pinned (OpenSpec.upto boundCalleesSpec)

/-- 'weighhouselaw04.CodeApart', WHERE WHAT IT READS IS OF BULK AT MOST 1048576: true; the input reads as it did. -/
def codeApartUptoRow : OpenClaim := { program := "ytchmgilckiadaaa", sum := "26aa50904ca3f1b4dcca17f4432c76b5e6c185fd55904d4be72616b0174bfd9d", func := "weighhouse/weighhouselaw04.CodeApart", spec := "codeApart", unfollowed := true, recurses := true, apart := false, narrowed := true }
def CodeApartUptoSaid : Prop := codeApartUptoRow.holds Try.pinned (OpenSpec.upto codeApartSpec)

/-- 'weighhouselaw04.CodeRights', WHERE WHAT IT READS IS OF BULK AT MOST 1048576: true; the input reads as it did. -/
def codeRightsUptoRow : OpenClaim := { program := "ytchmgilckiadaaa", sum := "26aa50904ca3f1b4dcca17f4432c76b5e6c185fd55904d4be72616b0174bfd9d", func := "weighhouse/weighhouselaw04.CodeRights", spec := "codeRights", unfollowed := true, recurses := true, apart := false, narrowed := true }
def CodeRightsUptoSaid : Prop := codeRightsUptoRow.holds Try.pinned (OpenSpec.upto codeRightsSpec)

/-- 'weighhouselaw04.CodeSames', WHERE WHAT IT READS IS OF BULK AT MOST 1048576: true; the input reads as it did. -/
def codeSamesUptoRow : OpenClaim := { program := "ytchmgilckiadaaa", sum := "26aa50904ca3f1b4dcca17f4432c76b5e6c185fd55904d4be72616b0174bfd9d", func := "weighhouse/weighhouselaw04.CodeSames", spec := "codeSames", unfollowed := true, recurses := true, apart := false, narrowed := true }
def CodeSamesUptoSaid : Prop := codeSamesUptoRow.holds Try.pinned (OpenSpec.upto codeSamesSpec)

/-- 'weighhouselaw04.CodeBytes', WHERE WHAT IT READS IS OF BULK AT MOST 1048576: true; the input reads as it did. -/
def codeBytesUptoRow : OpenClaim := { program := "ytchmgilckiadaaa", sum := "26aa50904ca3f1b4dcca17f4432c76b5e6c185fd55904d4be72616b0174bfd9d", func := "weighhouse/weighhouselaw04.CodeBytes", spec := "codeBytes", unfollowed := true, recurses := true, apart := false, narrowed := true }
def CodeBytesUptoSaid : Prop := codeBytesUptoRow.holds Try.pinned (OpenSpec.upto codeBytesSpec)

/-- 'weighhouselaw04.CodeBack', WHERE WHAT IT READS IS OF BULK AT MOST 1048576: true; the input reads as it did. -/
def codeBackUptoRow : OpenClaim := { program := "ytchmgilckiadaaa", sum := "26aa50904ca3f1b4dcca17f4432c76b5e6c185fd55904d4be72616b0174bfd9d", func := "weighhouse/weighhouselaw04.CodeBack", spec := "codeBack", unfollowed := true, recurses := true, apart := false, narrowed := true }
def CodeBackUptoSaid : Prop := codeBackUptoRow.holds Try.pinned (OpenSpec.upto codeBackSpec)

/-- 'weighhouselaw04.CodeCut', WHERE WHAT IT READS IS OF BULK AT MOST 1048576: true; the input reads as it did. -/
def codeCutUptoRow : OpenClaim := { program := "ytchmgilckiadaaa", sum := "26aa50904ca3f1b4dcca17f4432c76b5e6c185fd55904d4be72616b0174bfd9d", func := "weighhouse/weighhouselaw04.CodeCut", spec := "codeCut", unfollowed := true, recurses := true, apart := false, narrowed := true }
def CodeCutUptoSaid : Prop := codeCutUptoRow.holds Try.pinned (OpenSpec.upto codeCutSpec)

/-- 'weighhouselaw07.TypesChecks', WHERE WHAT IT READS IS OF BULK AT MOST 1048576: true; the input reads as it did. -/
def typesChecksUptoRow : OpenClaim := { program := "ytchmgilckiadaaa", sum := "26aa50904ca3f1b4dcca17f4432c76b5e6c185fd55904d4be72616b0174bfd9d", func := "weighhouse/weighhouselaw07.TypesChecks", spec := "typesChecks", unfollowed := true, recurses := true, apart := false, narrowed := true }
def TypesChecksUptoSaid : Prop := typesChecksUptoRow.holds Try.pinned (OpenSpec.upto typesChecksSpec)

/-- 'weighhouselaw07.TypesAll', WHERE WHAT IT READS IS OF BULK AT MOST 1048576: true; the input reads as it did. -/
def typesAllUptoRow : OpenClaim := { program := "ytchmgilckiadaaa", sum := "26aa50904ca3f1b4dcca17f4432c76b5e6c185fd55904d4be72616b0174bfd9d", func := "weighhouse/weighhouselaw07.TypesAll", spec := "typesAll", unfollowed := true, recurses := true, apart := false, narrowed := true }
def TypesAllUptoSaid : Prop := typesAllUptoRow.holds Try.pinned (OpenSpec.upto typesAllSpec)

/-- 'weighhouselaw07.TypesSame', WHERE WHAT IT READS IS OF BULK AT MOST 1048576: true; the input reads as it did. -/
def typesSameUptoRow : OpenClaim := { program := "ytchmgilckiadaaa", sum := "26aa50904ca3f1b4dcca17f4432c76b5e6c185fd55904d4be72616b0174bfd9d", func := "weighhouse/weighhouselaw07.TypesSame", spec := "typesSame", unfollowed := true, recurses := true, apart := false, narrowed := true }
def TypesSameUptoSaid : Prop := typesSameUptoRow.holds Try.pinned (OpenSpec.upto typesSameSpec)

/-- 'weighhouselaw07.TypesMore', WHERE WHAT IT READS IS OF BULK AT MOST 1048576: true; the input reads as it did. -/
def typesMoreUptoRow : OpenClaim := { program := "ytchmgilckiadaaa", sum := "26aa50904ca3f1b4dcca17f4432c76b5e6c185fd55904d4be72616b0174bfd9d", func := "weighhouse/weighhouselaw07.TypesMore", spec := "typesMore", unfollowed := true, recurses := true, apart := false, narrowed := true }
def TypesMoreUptoSaid : Prop := typesMoreUptoRow.holds Try.pinned (OpenSpec.upto typesMoreSpec)

/-- 'weighhouselaw07.TypesWays', WHERE WHAT IT READS IS OF BULK AT MOST 1048576: true; the input reads as it did. -/
def typesWaysUptoRow : OpenClaim := { program := "ytchmgilckiadaaa", sum := "26aa50904ca3f1b4dcca17f4432c76b5e6c185fd55904d4be72616b0174bfd9d", func := "weighhouse/weighhouselaw07.TypesWays", spec := "typesWays", unfollowed := true, recurses := true, apart := false, narrowed := true }
def TypesWaysUptoSaid : Prop := typesWaysUptoRow.holds Try.pinned (OpenSpec.upto typesWaysSpec)

/-- 'weighhouselaw08.CallsOrders', WHERE WHAT IT READS IS OF BULK AT MOST 1048576: true; the input reads as it did. -/
def callsOrdersUptoRow : OpenClaim := { program := "ytchmgilckiadaaa", sum := "26aa50904ca3f1b4dcca17f4432c76b5e6c185fd55904d4be72616b0174bfd9d", func := "weighhouse/weighhouselaw08.CallsOrders", spec := "callsOrders", unfollowed := true, recurses := true, apart := false, narrowed := true }
def CallsOrdersUptoSaid : Prop := callsOrdersUptoRow.holds Try.pinned (OpenSpec.upto callsOrdersSpec)

/-- 'weighhouselaw08.CallsBehind', WHERE WHAT IT READS IS OF BULK AT MOST 1048576: true; the input reads as it did. -/
def callsBehindUptoRow : OpenClaim := { program := "ytchmgilckiadaaa", sum := "26aa50904ca3f1b4dcca17f4432c76b5e6c185fd55904d4be72616b0174bfd9d", func := "weighhouse/weighhouselaw08.CallsBehind", spec := "callsBehind", unfollowed := true, recurses := true, apart := false, narrowed := true }
def CallsBehindUptoSaid : Prop := callsBehindUptoRow.holds Try.pinned (OpenSpec.upto callsBehindSpec)

/-- 'weighhouselaw08.CallsGraphs', WHERE WHAT IT READS IS OF BULK AT MOST 1048576: true; the input reads as it did. -/
def callsGraphsUptoRow : OpenClaim := { program := "ytchmgilckiadaaa", sum := "26aa50904ca3f1b4dcca17f4432c76b5e6c185fd55904d4be72616b0174bfd9d", func := "weighhouse/weighhouselaw08.CallsGraphs", spec := "callsGraphs", unfollowed := true, recurses := true, apart := false, narrowed := true }
def CallsGraphsUptoSaid : Prop := callsGraphsUptoRow.holds Try.pinned (OpenSpec.upto callsGraphsSpec)

/-- 'weighhouselaw08.CallsRound', WHERE WHAT IT READS IS OF BULK AT MOST 1048576: true; the input reads as it did. -/
def callsRoundUptoRow : OpenClaim := { program := "ytchmgilckiadaaa", sum := "26aa50904ca3f1b4dcca17f4432c76b5e6c185fd55904d4be72616b0174bfd9d", func := "weighhouse/weighhouselaw08.CallsRound", spec := "callsRound", unfollowed := true, recurses := true, apart := false, narrowed := true }
def CallsRoundUptoSaid : Prop := callsRoundUptoRow.holds Try.pinned (OpenSpec.upto callsRoundSpec)

/-- 'weighhouselaw08.CallsReach', WHERE WHAT IT READS IS OF BULK AT MOST 1048576: true; the input reads as it did. -/
def callsReachUptoRow : OpenClaim := { program := "ytchmgilckiadaaa", sum := "26aa50904ca3f1b4dcca17f4432c76b5e6c185fd55904d4be72616b0174bfd9d", func := "weighhouse/weighhouselaw08.CallsReach", spec := "callsReach", unfollowed := true, recurses := true, apart := false, narrowed := true }
def CallsReachUptoSaid : Prop := callsReachUptoRow.holds Try.pinned (OpenSpec.upto callsReachSpec)

/-- 'weighhouselaw09.BoundFuncs', WHERE WHAT IT READS IS OF BULK AT MOST 1048576: true; the input reads as it did. -/
def boundFuncsUptoRow : OpenClaim := { program := "ytchmgilckiadaaa", sum := "26aa50904ca3f1b4dcca17f4432c76b5e6c185fd55904d4be72616b0174bfd9d", func := "weighhouse/weighhouselaw09.BoundFuncs", spec := "boundFuncs", unfollowed := true, recurses := true, apart := false, narrowed := true }
def BoundFuncsUptoSaid : Prop := boundFuncsUptoRow.holds Try.pinned (OpenSpec.upto boundFuncsSpec)

end Rows
end Go.Proofs.Ytchmgilckiadaaa
