/-
  No cell of these rows narrows 'for every input' (looked for: loops, veiled, ifaces, maps, wideKeys, modest, calm, conditions, laid).
  DERIVED. THE GIVEN ROWS OF THIS SEAT. 23 by the template 'for every input the law returns true; each argument reads behind the call as it read before'; 0 by the template 'total and deterministic' (their statements: YtfmgadchjiplmaaTotals.lean).
  GIVEN WITH THE SEED: the statements are not yours to turn. If you find one false, say at which input.
  Laid BY PROGRAM, IN A SANDBOX (cutbox-rows.mjs): the forced cells as the released guide's own fill.sh prints them over the translation 770c585b59cb28ef… (all of the seat's roots in one cut). By AI agents, Wed Nov 11 2026. No macro, syntax, notation, axiom, sorry.
-/
import Derived.Test.YtfmgadchjiplmaaChecked
import GoSem.Claim
import GoSem.ClaimJoined
import GoSem.ClaimMapViews
import Derived.JoinedTies
import Derived.KernelRfl
namespace Go.Proofs.Ytfmgadchjiplmaa
/- THE CELL 'sum', in the pinned program and in every row, IS THE sha256 OF THE DUMP (.gsa) THAT YtfmgadchjiplmaaProg.lean LOADS. Nothing in Lean hashes anything: it is a label: what it is worth is what the hold of that sum in a sandbox is worth. -/
noncomputable def Try.pinned : Pinned := { name := "ytfmgadchjiplmaa", sum := "770c585b59cb28efbc8ffd03b557c33e9f1b20e1e1a8805a780c2f34772e0440", checked := Try.checked }
namespace Rows
def none {H : Type} : Left H := { results := [], args := [] }

/-- 'laws.FnExactWayOk': WHATEVER THE INPUT: true; the input reads as it did. -/
def fnExactWayOkSpec : ChangeSpec := { name := "fnExactWayOk", fn := fun _ => fun
  | [d] => { results := [.lit (.bool true)], args := [d] }
  | _ => none }
def fnExactWayOkRow : OpenClaim := { program := "ytfmgadchjiplmaa", sum := "770c585b59cb28efbc8ffd03b557c33e9f1b20e1e1a8805a780c2f34772e0440", func := "loop.example/g03317/laws.FnExactWayOk", spec := "fnExactWayOk", apart := false }
def FnExactWayOkSaid : Prop := fnExactWayOkRow.holds Try.pinned (OpenSpec.ofChange fnExactWayOkSpec)

/-- ITS FALSE NEIGHBOUR: 'it returns false'. Refute it at one input. -/
def fnExactWayOkWrong : ChangeSpec := { name := "fnExactWayOk", fn := fun _ => fun
  | [d] => { results := [.lit (.bool false)], args := [d] }
  | _ => none }
def FnExactWayOkWrongFalsely : Prop := fnExactWayOkRow.holds Try.pinned (OpenSpec.ofChange fnExactWayOkWrong)

/-- 'laws.FnExactEntryOk': WHATEVER THE INPUT: true; the input reads as it did. -/
def fnExactEntryOkSpec : ChangeSpec := { name := "fnExactEntryOk", fn := fun _ => fun
  | [d] => { results := [.lit (.bool true)], args := [d] }
  | _ => none }
def fnExactEntryOkRow : OpenClaim := { program := "ytfmgadchjiplmaa", sum := "770c585b59cb28efbc8ffd03b557c33e9f1b20e1e1a8805a780c2f34772e0440", func := "loop.example/g03317/laws.FnExactEntryOk", spec := "fnExactEntryOk", apart := false }
def FnExactEntryOkSaid : Prop := fnExactEntryOkRow.holds Try.pinned (OpenSpec.ofChange fnExactEntryOkSpec)

/-- ITS FALSE NEIGHBOUR: 'it returns false'. Refute it at one input. -/
def fnExactEntryOkWrong : ChangeSpec := { name := "fnExactEntryOk", fn := fun _ => fun
  | [d] => { results := [.lit (.bool false)], args := [d] }
  | _ => none }
def FnExactEntryOkWrongFalsely : Prop := fnExactEntryOkRow.holds Try.pinned (OpenSpec.ofChange fnExactEntryOkWrong)

/-- 'laws.FnExactBookOk': WHATEVER THE INPUT: true; the input reads as it did. -/
def fnExactBookOkSpec : ChangeSpec := { name := "fnExactBookOk", fn := fun _ => fun
  | [d] => { results := [.lit (.bool true)], args := [d] }
  | _ => none }
def fnExactBookOkRow : OpenClaim := { program := "ytfmgadchjiplmaa", sum := "770c585b59cb28efbc8ffd03b557c33e9f1b20e1e1a8805a780c2f34772e0440", func := "loop.example/g03317/laws.FnExactBookOk", spec := "fnExactBookOk", apart := false }
def FnExactBookOkSaid : Prop := fnExactBookOkRow.holds Try.pinned (OpenSpec.ofChange fnExactBookOkSpec)

/-- ITS FALSE NEIGHBOUR: 'it returns false'. Refute it at one input. -/
def fnExactBookOkWrong : ChangeSpec := { name := "fnExactBookOk", fn := fun _ => fun
  | [d] => { results := [.lit (.bool false)], args := [d] }
  | _ => none }
def FnExactBookOkWrongFalsely : Prop := fnExactBookOkRow.holds Try.pinned (OpenSpec.ofChange fnExactBookOkWrong)

/-- 'laws.FnExactTariffOk': WHATEVER THE INPUT: true; the input reads as it did. -/
def fnExactTariffOkSpec : ChangeSpec := { name := "fnExactTariffOk", fn := fun _ => fun
  | [d] => { results := [.lit (.bool true)], args := [d] }
  | _ => none }
def fnExactTariffOkRow : OpenClaim := { program := "ytfmgadchjiplmaa", sum := "770c585b59cb28efbc8ffd03b557c33e9f1b20e1e1a8805a780c2f34772e0440", func := "loop.example/g03317/laws.FnExactTariffOk", spec := "fnExactTariffOk", apart := false }
def FnExactTariffOkSaid : Prop := fnExactTariffOkRow.holds Try.pinned (OpenSpec.ofChange fnExactTariffOkSpec)

/-- ITS FALSE NEIGHBOUR: 'it returns false'. Refute it at one input. -/
def fnExactTariffOkWrong : ChangeSpec := { name := "fnExactTariffOk", fn := fun _ => fun
  | [d] => { results := [.lit (.bool false)], args := [d] }
  | _ => none }
def FnExactTariffOkWrongFalsely : Prop := fnExactTariffOkRow.holds Try.pinned (OpenSpec.ofChange fnExactTariffOkWrong)

/-- 'laws.FnExactBalancesOf': WHATEVER THE INPUT: true; the input reads as it did. -/
def fnExactBalancesOfSpec : ChangeSpec := { name := "fnExactBalancesOf", fn := fun _ => fun
  | [d] => { results := [.lit (.bool true)], args := [d] }
  | _ => none }
def fnExactBalancesOfRow : OpenClaim := { program := "ytfmgadchjiplmaa", sum := "770c585b59cb28efbc8ffd03b557c33e9f1b20e1e1a8805a780c2f34772e0440", func := "loop.example/g03317/laws.FnExactBalancesOf", spec := "fnExactBalancesOf", apart := false }
def FnExactBalancesOfSaid : Prop := fnExactBalancesOfRow.holds Try.pinned (OpenSpec.ofChange fnExactBalancesOfSpec)

/-- ITS FALSE NEIGHBOUR: 'it returns false'. Refute it at one input. -/
def fnExactBalancesOfWrong : ChangeSpec := { name := "fnExactBalancesOf", fn := fun _ => fun
  | [d] => { results := [.lit (.bool false)], args := [d] }
  | _ => none }
def FnExactBalancesOfWrongFalsely : Prop := fnExactBalancesOfRow.holds Try.pinned (OpenSpec.ofChange fnExactBalancesOfWrong)

/-- 'laws.FnTurns': WHATEVER THE INPUT: true; the input reads as it did. -/
def fnTurnsSpec : ChangeSpec := { name := "fnTurns", fn := fun _ => fun
  | [d] => { results := [.lit (.bool true)], args := [d] }
  | _ => none }
def fnTurnsRow : OpenClaim := { program := "ytfmgadchjiplmaa", sum := "770c585b59cb28efbc8ffd03b557c33e9f1b20e1e1a8805a780c2f34772e0440", func := "loop.example/g03317/laws.FnTurns", spec := "fnTurns", unfollowed := true, recurses := true, apart := false }
def FnTurnsSaid : Prop := fnTurnsRow.holds Try.pinned (OpenSpec.ofChange fnTurnsSpec)

/-- ITS FALSE NEIGHBOUR: 'it returns false'. Refute it at one input. -/
def fnTurnsWrong : ChangeSpec := { name := "fnTurns", fn := fun _ => fun
  | [d] => { results := [.lit (.bool false)], args := [d] }
  | _ => none }
def FnTurnsWrongFalsely : Prop := fnTurnsRow.holds Try.pinned (OpenSpec.ofChange fnTurnsWrong)

/-- 'laws.FnSettled': WHATEVER THE INPUT: true; the input reads as it did. -/
def fnSettledSpec : ChangeSpec := { name := "fnSettled", fn := fun _ => fun
  | [d] => { results := [.lit (.bool true)], args := [d] }
  | _ => none }
def fnSettledRow : OpenClaim := { program := "ytfmgadchjiplmaa", sum := "770c585b59cb28efbc8ffd03b557c33e9f1b20e1e1a8805a780c2f34772e0440", func := "loop.example/g03317/laws.FnSettled", spec := "fnSettled", apart := false }
def FnSettledSaid : Prop := fnSettledRow.holds Try.pinned (OpenSpec.ofChange fnSettledSpec)

/-- ITS FALSE NEIGHBOUR: 'it returns false'. Refute it at one input. -/
def fnSettledWrong : ChangeSpec := { name := "fnSettled", fn := fun _ => fun
  | [d] => { results := [.lit (.bool false)], args := [d] }
  | _ => none }
def FnSettledWrongFalsely : Prop := fnSettledRow.holds Try.pinned (OpenSpec.ofChange fnSettledWrong)

/-- 'laws.FnExactPostEntries': WHATEVER THE INPUT: true; the input reads as it did. -/
def fnExactPostEntriesSpec : ChangeSpec := { name := "fnExactPostEntries", fn := fun _ => fun
  | [d1, d2] => { results := [.lit (.bool true)], args := [d1, d2] }
  | _ => none }
def fnExactPostEntriesRow : OpenClaim := { program := "ytfmgadchjiplmaa", sum := "770c585b59cb28efbc8ffd03b557c33e9f1b20e1e1a8805a780c2f34772e0440", func := "loop.example/g03317/laws.FnExactPostEntries", spec := "fnExactPostEntries", apart := false }
def FnExactPostEntriesSaid : Prop := fnExactPostEntriesRow.holds Try.pinned (OpenSpec.ofChange fnExactPostEntriesSpec)

/-- ITS FALSE NEIGHBOUR: 'it returns false'. Refute it at one input. -/
def fnExactPostEntriesWrong : ChangeSpec := { name := "fnExactPostEntries", fn := fun _ => fun
  | [d1, d2] => { results := [.lit (.bool false)], args := [d1, d2] }
  | _ => none }
def FnExactPostEntriesWrongFalsely : Prop := fnExactPostEntriesRow.holds Try.pinned (OpenSpec.ofChange fnExactPostEntriesWrong)

/-- 'laws.FnExactSettleUp': WHATEVER THE INPUT: true; the input reads as it did. -/
def fnExactSettleUpSpec : ChangeSpec := { name := "fnExactSettleUp", fn := fun _ => fun
  | [d1, d2] => { results := [.lit (.bool true)], args := [d1, d2] }
  | _ => none }
def fnExactSettleUpRow : OpenClaim := { program := "ytfmgadchjiplmaa", sum := "770c585b59cb28efbc8ffd03b557c33e9f1b20e1e1a8805a780c2f34772e0440", func := "loop.example/g03317/laws.FnExactSettleUp", spec := "fnExactSettleUp", apart := false }
def FnExactSettleUpSaid : Prop := fnExactSettleUpRow.holds Try.pinned (OpenSpec.ofChange fnExactSettleUpSpec)

/-- ITS FALSE NEIGHBOUR: 'it returns false'. Refute it at one input. -/
def fnExactSettleUpWrong : ChangeSpec := { name := "fnExactSettleUp", fn := fun _ => fun
  | [d1, d2] => { results := [.lit (.bool false)], args := [d1, d2] }
  | _ => none }
def FnExactSettleUpWrongFalsely : Prop := fnExactSettleUpRow.holds Try.pinned (OpenSpec.ofChange fnExactSettleUpWrong)

/-- 'laws.FnExactMoverOk': WHATEVER THE INPUT: true; the input reads as it did. -/
def fnExactMoverOkSpec : ChangeSpec := { name := "fnExactMoverOk", fn := fun _ => fun
  | [d1, d2] => { results := [.lit (.bool true)], args := [d1, d2] }
  | _ => none }
def fnExactMoverOkRow : OpenClaim := { program := "ytfmgadchjiplmaa", sum := "770c585b59cb28efbc8ffd03b557c33e9f1b20e1e1a8805a780c2f34772e0440", func := "loop.example/g03317/laws.FnExactMoverOk", spec := "fnExactMoverOk", apart := false }
def FnExactMoverOkSaid : Prop := fnExactMoverOkRow.holds Try.pinned (OpenSpec.ofChange fnExactMoverOkSpec)

/-- ITS FALSE NEIGHBOUR: 'it returns false'. Refute it at one input. -/
def fnExactMoverOkWrong : ChangeSpec := { name := "fnExactMoverOk", fn := fun _ => fun
  | [d1, d2] => { results := [.lit (.bool false)], args := [d1, d2] }
  | _ => none }
def FnExactMoverOkWrongFalsely : Prop := fnExactMoverOkRow.holds Try.pinned (OpenSpec.ofChange fnExactMoverOkWrong)

/-- 'laws.FnExactAtEnd': WHATEVER THE INPUT: true; the input reads as it did. -/
def fnExactAtEndSpec : ChangeSpec := { name := "fnExactAtEnd", fn := fun _ => fun
  | [d1, d2] => { results := [.lit (.bool true)], args := [d1, d2] }
  | _ => none }
def fnExactAtEndRow : OpenClaim := { program := "ytfmgadchjiplmaa", sum := "770c585b59cb28efbc8ffd03b557c33e9f1b20e1e1a8805a780c2f34772e0440", func := "loop.example/g03317/laws.FnExactAtEnd", spec := "fnExactAtEnd", apart := false }
def FnExactAtEndSaid : Prop := fnExactAtEndRow.holds Try.pinned (OpenSpec.ofChange fnExactAtEndSpec)

/-- ITS FALSE NEIGHBOUR: 'it returns false'. Refute it at one input. -/
def fnExactAtEndWrong : ChangeSpec := { name := "fnExactAtEnd", fn := fun _ => fun
  | [d1, d2] => { results := [.lit (.bool false)], args := [d1, d2] }
  | _ => none }
def FnExactAtEndWrongFalsely : Prop := fnExactAtEndRow.holds Try.pinned (OpenSpec.ofChange fnExactAtEndWrong)

/-- 'laws.FnExactPaceOf': WHATEVER THE INPUT: true; the input reads as it did. -/
def fnExactPaceOfSpec : ChangeSpec := { name := "fnExactPaceOf", fn := fun _ => fun
  | [d1, d2] => { results := [.lit (.bool true)], args := [d1, d2] }
  | _ => none }
def fnExactPaceOfRow : OpenClaim := { program := "ytfmgadchjiplmaa", sum := "770c585b59cb28efbc8ffd03b557c33e9f1b20e1e1a8805a780c2f34772e0440", func := "loop.example/g03317/laws.FnExactPaceOf", spec := "fnExactPaceOf", apart := false }
def FnExactPaceOfSaid : Prop := fnExactPaceOfRow.holds Try.pinned (OpenSpec.ofChange fnExactPaceOfSpec)

/-- ITS FALSE NEIGHBOUR: 'it returns false'. Refute it at one input. -/
def fnExactPaceOfWrong : ChangeSpec := { name := "fnExactPaceOf", fn := fun _ => fun
  | [d1, d2] => { results := [.lit (.bool false)], args := [d1, d2] }
  | _ => none }
def FnExactPaceOfWrongFalsely : Prop := fnExactPaceOfRow.holds Try.pinned (OpenSpec.ofChange fnExactPaceOfWrong)

/-- 'laws.FnExactDepthIn': WHATEVER THE INPUT: true; the input reads as it did. -/
def fnExactDepthInSpec : ChangeSpec := { name := "fnExactDepthIn", fn := fun _ => fun
  | [d1, d2] => { results := [.lit (.bool true)], args := [d1, d2] }
  | _ => none }
def fnExactDepthInRow : OpenClaim := { program := "ytfmgadchjiplmaa", sum := "770c585b59cb28efbc8ffd03b557c33e9f1b20e1e1a8805a780c2f34772e0440", func := "loop.example/g03317/laws.FnExactDepthIn", spec := "fnExactDepthIn", apart := false }
def FnExactDepthInSaid : Prop := fnExactDepthInRow.holds Try.pinned (OpenSpec.ofChange fnExactDepthInSpec)

/-- ITS FALSE NEIGHBOUR: 'it returns false'. Refute it at one input. -/
def fnExactDepthInWrong : ChangeSpec := { name := "fnExactDepthIn", fn := fun _ => fun
  | [d1, d2] => { results := [.lit (.bool false)], args := [d1, d2] }
  | _ => none }
def FnExactDepthInWrongFalsely : Prop := fnExactDepthInRow.holds Try.pinned (OpenSpec.ofChange fnExactDepthInWrong)

/-- 'laws.FnExactTollOf': WHATEVER THE INPUT: true; the input reads as it did. -/
def fnExactTollOfSpec : ChangeSpec := { name := "fnExactTollOf", fn := fun _ => fun
  | [d1, d2] => { results := [.lit (.bool true)], args := [d1, d2] }
  | _ => none }
def fnExactTollOfRow : OpenClaim := { program := "ytfmgadchjiplmaa", sum := "770c585b59cb28efbc8ffd03b557c33e9f1b20e1e1a8805a780c2f34772e0440", func := "loop.example/g03317/laws.FnExactTollOf", spec := "fnExactTollOf", apart := false }
def FnExactTollOfSaid : Prop := fnExactTollOfRow.holds Try.pinned (OpenSpec.ofChange fnExactTollOfSpec)

/-- ITS FALSE NEIGHBOUR: 'it returns false'. Refute it at one input. -/
def fnExactTollOfWrong : ChangeSpec := { name := "fnExactTollOf", fn := fun _ => fun
  | [d1, d2] => { results := [.lit (.bool false)], args := [d1, d2] }
  | _ => none }
def FnExactTollOfWrongFalsely : Prop := fnExactTollOfRow.holds Try.pinned (OpenSpec.ofChange fnExactTollOfWrong)

/-- 'laws.FnSailing': WHATEVER THE INPUT: true; the input reads as it did. -/
def fnSailingSpec : ChangeSpec := { name := "fnSailing", fn := fun _ => fun
  | [d] => { results := [.lit (.bool true)], args := [d] }
  | _ => none }
def fnSailingRow : OpenClaim := { program := "ytfmgadchjiplmaa", sum := "770c585b59cb28efbc8ffd03b557c33e9f1b20e1e1a8805a780c2f34772e0440", func := "loop.example/g03317/laws.FnSailing", spec := "fnSailing", apart := false }
def FnSailingSaid : Prop := fnSailingRow.holds Try.pinned (OpenSpec.ofChange fnSailingSpec)

/-- ITS FALSE NEIGHBOUR: 'it returns false'. Refute it at one input. -/
def fnSailingWrong : ChangeSpec := { name := "fnSailing", fn := fun _ => fun
  | [d] => { results := [.lit (.bool false)], args := [d] }
  | _ => none }
def FnSailingWrongFalsely : Prop := fnSailingRow.holds Try.pinned (OpenSpec.ofChange fnSailingWrong)

/-- 'laws.FnTolls': WHATEVER THE INPUT: true; the input reads as it did. -/
def fnTollsSpec : ChangeSpec := { name := "fnTolls", fn := fun _ => fun
  | [d] => { results := [.lit (.bool true)], args := [d] }
  | _ => none }
def fnTollsRow : OpenClaim := { program := "ytfmgadchjiplmaa", sum := "770c585b59cb28efbc8ffd03b557c33e9f1b20e1e1a8805a780c2f34772e0440", func := "loop.example/g03317/laws.FnTolls", spec := "fnTolls", unfollowed := true, recurses := true, apart := false }
def FnTollsSaid : Prop := fnTollsRow.holds Try.pinned (OpenSpec.ofChange fnTollsSpec)

/-- ITS FALSE NEIGHBOUR: 'it returns false'. Refute it at one input. -/
def fnTollsWrong : ChangeSpec := { name := "fnTolls", fn := fun _ => fun
  | [d] => { results := [.lit (.bool false)], args := [d] }
  | _ => none }
def FnTollsWrongFalsely : Prop := fnTollsRow.holds Try.pinned (OpenSpec.ofChange fnTollsWrong)

/-- 'laws.FnExactNextSide': WHATEVER THE INPUT: true; the input reads as it did. -/
def fnExactNextSideSpec : ChangeSpec := { name := "fnExactNextSide", fn := fun _ => fun
  | [d1, d2, d3] => { results := [.lit (.bool true)], args := [d1, d2, d3] }
  | _ => none }
def fnExactNextSideRow : OpenClaim := { program := "ytfmgadchjiplmaa", sum := "770c585b59cb28efbc8ffd03b557c33e9f1b20e1e1a8805a780c2f34772e0440", func := "loop.example/g03317/laws.FnExactNextSide", spec := "fnExactNextSide", unfollowed := true, recurses := true, apart := false }
def FnExactNextSideSaid : Prop := fnExactNextSideRow.holds Try.pinned (OpenSpec.ofChange fnExactNextSideSpec)

/-- ITS FALSE NEIGHBOUR: 'it returns false'. Refute it at one input. -/
def fnExactNextSideWrong : ChangeSpec := { name := "fnExactNextSide", fn := fun _ => fun
  | [d1, d2, d3] => { results := [.lit (.bool false)], args := [d1, d2, d3] }
  | _ => none }
def FnExactNextSideWrongFalsely : Prop := fnExactNextSideRow.holds Try.pinned (OpenSpec.ofChange fnExactNextSideWrong)

/-- 'laws.FnExactTimeTo': WHATEVER THE INPUT: true; the input reads as it did. -/
def fnExactTimeToSpec : ChangeSpec := { name := "fnExactTimeTo", fn := fun _ => fun
  | [d1, d2, d3] => { results := [.lit (.bool true)], args := [d1, d2, d3] }
  | _ => none }
def fnExactTimeToRow : OpenClaim := { program := "ytfmgadchjiplmaa", sum := "770c585b59cb28efbc8ffd03b557c33e9f1b20e1e1a8805a780c2f34772e0440", func := "loop.example/g03317/laws.FnExactTimeTo", spec := "fnExactTimeTo", apart := false }
def FnExactTimeToSaid : Prop := fnExactTimeToRow.holds Try.pinned (OpenSpec.ofChange fnExactTimeToSpec)

/-- ITS FALSE NEIGHBOUR: 'it returns false'. Refute it at one input. -/
def fnExactTimeToWrong : ChangeSpec := { name := "fnExactTimeTo", fn := fun _ => fun
  | [d1, d2, d3] => { results := [.lit (.bool false)], args := [d1, d2, d3] }
  | _ => none }
def FnExactTimeToWrongFalsely : Prop := fnExactTimeToRow.holds Try.pinned (OpenSpec.ofChange fnExactTimeToWrong)

/-- 'laws.FnExactOrderCalls': WHATEVER THE INPUT: true; the input reads as it did. -/
def fnExactOrderCallsSpec : ChangeSpec := { name := "fnExactOrderCalls", fn := fun _ => fun
  | [d1, d2] => { results := [.lit (.bool true)], args := [d1, d2] }
  | _ => none }
def fnExactOrderCallsRow : OpenClaim := { program := "ytfmgadchjiplmaa", sum := "770c585b59cb28efbc8ffd03b557c33e9f1b20e1e1a8805a780c2f34772e0440", func := "loop.example/g03317/laws.FnExactOrderCalls", spec := "fnExactOrderCalls", unfollowed := true, recurses := true, apart := false }
def FnExactOrderCallsSaid : Prop := fnExactOrderCallsRow.holds Try.pinned (OpenSpec.ofChange fnExactOrderCallsSpec)

/-- ITS FALSE NEIGHBOUR: 'it returns false'. Refute it at one input. -/
def fnExactOrderCallsWrong : ChangeSpec := { name := "fnExactOrderCalls", fn := fun _ => fun
  | [d1, d2] => { results := [.lit (.bool false)], args := [d1, d2] }
  | _ => none }
def FnExactOrderCallsWrongFalsely : Prop := fnExactOrderCallsRow.holds Try.pinned (OpenSpec.ofChange fnExactOrderCallsWrong)

/-- 'laws.FnExactWorkOk': WHATEVER THE INPUT: true; the input reads as it did. -/
def fnExactWorkOkSpec : ChangeSpec := { name := "fnExactWorkOk", fn := fun _ => fun
  | [d] => { results := [.lit (.bool true)], args := [d] }
  | _ => none }
def fnExactWorkOkRow : OpenClaim := { program := "ytfmgadchjiplmaa", sum := "770c585b59cb28efbc8ffd03b557c33e9f1b20e1e1a8805a780c2f34772e0440", func := "loop.example/g03317/laws.FnExactWorkOk", spec := "fnExactWorkOk", apart := false }
def FnExactWorkOkSaid : Prop := fnExactWorkOkRow.holds Try.pinned (OpenSpec.ofChange fnExactWorkOkSpec)

/-- ITS FALSE NEIGHBOUR: 'it returns false'. Refute it at one input. -/
def fnExactWorkOkWrong : ChangeSpec := { name := "fnExactWorkOk", fn := fun _ => fun
  | [d] => { results := [.lit (.bool false)], args := [d] }
  | _ => none }
def FnExactWorkOkWrongFalsely : Prop := fnExactWorkOkRow.holds Try.pinned (OpenSpec.ofChange fnExactWorkOkWrong)

/-- 'laws.FnExactGroundedOf': WHATEVER THE INPUT: true; the input reads as it did. -/
def fnExactGroundedOfSpec : ChangeSpec := { name := "fnExactGroundedOf", fn := fun _ => fun
  | [d1, d2, d3] => { results := [.lit (.bool true)], args := [d1, d2, d3] }
  | _ => none }
def fnExactGroundedOfRow : OpenClaim := { program := "ytfmgadchjiplmaa", sum := "770c585b59cb28efbc8ffd03b557c33e9f1b20e1e1a8805a780c2f34772e0440", func := "loop.example/g03317/laws.FnExactGroundedOf", spec := "fnExactGroundedOf", apart := false }
def FnExactGroundedOfSaid : Prop := fnExactGroundedOfRow.holds Try.pinned (OpenSpec.ofChange fnExactGroundedOfSpec)

/-- ITS FALSE NEIGHBOUR: 'it returns false'. Refute it at one input. -/
def fnExactGroundedOfWrong : ChangeSpec := { name := "fnExactGroundedOf", fn := fun _ => fun
  | [d1, d2, d3] => { results := [.lit (.bool false)], args := [d1, d2, d3] }
  | _ => none }
def FnExactGroundedOfWrongFalsely : Prop := fnExactGroundedOfRow.holds Try.pinned (OpenSpec.ofChange fnExactGroundedOfWrong)

/-- 'laws.FnExactMoveOne': WHATEVER THE INPUT: true; the input reads as it did. -/
def fnExactMoveOneSpec : ChangeSpec := { name := "fnExactMoveOne", fn := fun _ => fun
  | [d1, d2, d3] => { results := [.lit (.bool true)], args := [d1, d2, d3] }
  | _ => none }
def fnExactMoveOneRow : OpenClaim := { program := "ytfmgadchjiplmaa", sum := "770c585b59cb28efbc8ffd03b557c33e9f1b20e1e1a8805a780c2f34772e0440", func := "loop.example/g03317/laws.FnExactMoveOne", spec := "fnExactMoveOne", apart := false }
def FnExactMoveOneSaid : Prop := fnExactMoveOneRow.holds Try.pinned (OpenSpec.ofChange fnExactMoveOneSpec)

/-- ITS FALSE NEIGHBOUR: 'it returns false'. Refute it at one input. -/
def fnExactMoveOneWrong : ChangeSpec := { name := "fnExactMoveOne", fn := fun _ => fun
  | [d1, d2, d3] => { results := [.lit (.bool false)], args := [d1, d2, d3] }
  | _ => none }
def FnExactMoveOneWrongFalsely : Prop := fnExactMoveOneRow.holds Try.pinned (OpenSpec.ofChange fnExactMoveOneWrong)

/-- 'laws.FnExactTollEntries': WHATEVER THE INPUT: true; the input reads as it did. -/
def fnExactTollEntriesSpec : ChangeSpec := { name := "fnExactTollEntries", fn := fun _ => fun
  | [d1, d2, d3] => { results := [.lit (.bool true)], args := [d1, d2, d3] }
  | _ => none }
def fnExactTollEntriesRow : OpenClaim := { program := "ytfmgadchjiplmaa", sum := "770c585b59cb28efbc8ffd03b557c33e9f1b20e1e1a8805a780c2f34772e0440", func := "loop.example/g03317/laws.FnExactTollEntries", spec := "fnExactTollEntries", unfollowed := true, recurses := true, apart := false }
def FnExactTollEntriesSaid : Prop := fnExactTollEntriesRow.holds Try.pinned (OpenSpec.ofChange fnExactTollEntriesSpec)

/-- ITS FALSE NEIGHBOUR: 'it returns false'. Refute it at one input. -/
def fnExactTollEntriesWrong : ChangeSpec := { name := "fnExactTollEntries", fn := fun _ => fun
  | [d1, d2, d3] => { results := [.lit (.bool false)], args := [d1, d2, d3] }
  | _ => none }
def FnExactTollEntriesWrongFalsely : Prop := fnExactTollEntriesRow.holds Try.pinned (OpenSpec.ofChange fnExactTollEntriesWrong)

/- THE SECOND FORM. 'bulk': how many values and letters a reading holds, each counted each time it is reached (what is shared counts as often as it is met; a slice's spare places count too). A statement '..UptoSaid' is the law's where the arguments, and the package variables that the reading takes, are together of bulk at most 1048576: NARROWER than '..Said'. Prove '..Said' where nothing that the law and all that it calls make is longer than what came in: it says more and counts as full. Else prove '..UptoSaid'. A law counts once. -/
mutual
def uptoBulk {H : Type} : DataW H → Nat
  | .lit (.string bytes) => bytes.length + 1
  | .lit _ => 1
  | .nil => 1
  | .ptr d => uptoBulk d + 1
  | .slice elems spare => uptoBulkAll elems + uptoBulkAll spare + 1
  | .agg parts => uptoBulkAll parts + 1
  | .iface _ d => uptoBulk d + 1
  | .map entries => uptoBulkEntries entries + 1
  | .held _ => 1
def uptoBulkAll {H : Type} : List (DataW H) → Nat
  | [] => 0
  | d :: r => uptoBulk d + uptoBulkAll r
def uptoBulkEntries {H : Type} : List (Lit × DataW H) → Nat
  | [] => 0
  | x :: r => uptoBulkEntry x + uptoBulkEntries r
def uptoBulkEntry {H : Type} : Lit × DataW H → Nat
  | (.string bytes, d) => bytes.length + uptoBulk d + 1
  | (_, d) => uptoBulk d + 1
 end
def uptoSmall : (H : Type) → List (DataW H) → Bool := fun _ ds => decide (uptoBulkAll ds ≤ 1048576)
def OpenSpec.upto (s : _root_.Go.ChangeSpec) : _root_.Go.OpenSpec := { _root_.Go.OpenSpec.ofChange s with cond := some uptoSmall }

/-- 'laws.FnExactWayOk', WHERE WHAT IT READS IS OF BULK AT MOST 1048576: true; the input reads as it did. -/
def fnExactWayOkUptoRow : OpenClaim := { program := "ytfmgadchjiplmaa", sum := "770c585b59cb28efbc8ffd03b557c33e9f1b20e1e1a8805a780c2f34772e0440", func := "loop.example/g03317/laws.FnExactWayOk", spec := "fnExactWayOk", apart := false, narrowed := true }
def FnExactWayOkUptoSaid : Prop := fnExactWayOkUptoRow.holds Try.pinned (OpenSpec.upto fnExactWayOkSpec)

/-- 'laws.FnExactEntryOk', WHERE WHAT IT READS IS OF BULK AT MOST 1048576: true; the input reads as it did. -/
def fnExactEntryOkUptoRow : OpenClaim := { program := "ytfmgadchjiplmaa", sum := "770c585b59cb28efbc8ffd03b557c33e9f1b20e1e1a8805a780c2f34772e0440", func := "loop.example/g03317/laws.FnExactEntryOk", spec := "fnExactEntryOk", apart := false, narrowed := true }
def FnExactEntryOkUptoSaid : Prop := fnExactEntryOkUptoRow.holds Try.pinned (OpenSpec.upto fnExactEntryOkSpec)

/-- 'laws.FnExactBookOk', WHERE WHAT IT READS IS OF BULK AT MOST 1048576: true; the input reads as it did. -/
def fnExactBookOkUptoRow : OpenClaim := { program := "ytfmgadchjiplmaa", sum := "770c585b59cb28efbc8ffd03b557c33e9f1b20e1e1a8805a780c2f34772e0440", func := "loop.example/g03317/laws.FnExactBookOk", spec := "fnExactBookOk", apart := false, narrowed := true }
def FnExactBookOkUptoSaid : Prop := fnExactBookOkUptoRow.holds Try.pinned (OpenSpec.upto fnExactBookOkSpec)

/-- 'laws.FnExactTariffOk', WHERE WHAT IT READS IS OF BULK AT MOST 1048576: true; the input reads as it did. -/
def fnExactTariffOkUptoRow : OpenClaim := { program := "ytfmgadchjiplmaa", sum := "770c585b59cb28efbc8ffd03b557c33e9f1b20e1e1a8805a780c2f34772e0440", func := "loop.example/g03317/laws.FnExactTariffOk", spec := "fnExactTariffOk", apart := false, narrowed := true }
def FnExactTariffOkUptoSaid : Prop := fnExactTariffOkUptoRow.holds Try.pinned (OpenSpec.upto fnExactTariffOkSpec)

/-- 'laws.FnExactBalancesOf', WHERE WHAT IT READS IS OF BULK AT MOST 1048576: true; the input reads as it did. -/
def fnExactBalancesOfUptoRow : OpenClaim := { program := "ytfmgadchjiplmaa", sum := "770c585b59cb28efbc8ffd03b557c33e9f1b20e1e1a8805a780c2f34772e0440", func := "loop.example/g03317/laws.FnExactBalancesOf", spec := "fnExactBalancesOf", apart := false, narrowed := true }
def FnExactBalancesOfUptoSaid : Prop := fnExactBalancesOfUptoRow.holds Try.pinned (OpenSpec.upto fnExactBalancesOfSpec)

/-- 'laws.FnTurns', WHERE WHAT IT READS IS OF BULK AT MOST 1048576: true; the input reads as it did. -/
def fnTurnsUptoRow : OpenClaim := { program := "ytfmgadchjiplmaa", sum := "770c585b59cb28efbc8ffd03b557c33e9f1b20e1e1a8805a780c2f34772e0440", func := "loop.example/g03317/laws.FnTurns", spec := "fnTurns", unfollowed := true, recurses := true, apart := false, narrowed := true }
def FnTurnsUptoSaid : Prop := fnTurnsUptoRow.holds Try.pinned (OpenSpec.upto fnTurnsSpec)

/-- 'laws.FnSettled', WHERE WHAT IT READS IS OF BULK AT MOST 1048576: true; the input reads as it did. -/
def fnSettledUptoRow : OpenClaim := { program := "ytfmgadchjiplmaa", sum := "770c585b59cb28efbc8ffd03b557c33e9f1b20e1e1a8805a780c2f34772e0440", func := "loop.example/g03317/laws.FnSettled", spec := "fnSettled", apart := false, narrowed := true }
def FnSettledUptoSaid : Prop := fnSettledUptoRow.holds Try.pinned (OpenSpec.upto fnSettledSpec)

/-- 'laws.FnExactPostEntries', WHERE WHAT IT READS IS OF BULK AT MOST 1048576: true; the input reads as it did. -/
def fnExactPostEntriesUptoRow : OpenClaim := { program := "ytfmgadchjiplmaa", sum := "770c585b59cb28efbc8ffd03b557c33e9f1b20e1e1a8805a780c2f34772e0440", func := "loop.example/g03317/laws.FnExactPostEntries", spec := "fnExactPostEntries", apart := false, narrowed := true }
def FnExactPostEntriesUptoSaid : Prop := fnExactPostEntriesUptoRow.holds Try.pinned (OpenSpec.upto fnExactPostEntriesSpec)

/-- 'laws.FnExactSettleUp', WHERE WHAT IT READS IS OF BULK AT MOST 1048576: true; the input reads as it did. -/
def fnExactSettleUpUptoRow : OpenClaim := { program := "ytfmgadchjiplmaa", sum := "770c585b59cb28efbc8ffd03b557c33e9f1b20e1e1a8805a780c2f34772e0440", func := "loop.example/g03317/laws.FnExactSettleUp", spec := "fnExactSettleUp", apart := false, narrowed := true }
def FnExactSettleUpUptoSaid : Prop := fnExactSettleUpUptoRow.holds Try.pinned (OpenSpec.upto fnExactSettleUpSpec)

/-- 'laws.FnExactMoverOk', WHERE WHAT IT READS IS OF BULK AT MOST 1048576: true; the input reads as it did. -/
def fnExactMoverOkUptoRow : OpenClaim := { program := "ytfmgadchjiplmaa", sum := "770c585b59cb28efbc8ffd03b557c33e9f1b20e1e1a8805a780c2f34772e0440", func := "loop.example/g03317/laws.FnExactMoverOk", spec := "fnExactMoverOk", apart := false, narrowed := true }
def FnExactMoverOkUptoSaid : Prop := fnExactMoverOkUptoRow.holds Try.pinned (OpenSpec.upto fnExactMoverOkSpec)

/-- 'laws.FnExactAtEnd', WHERE WHAT IT READS IS OF BULK AT MOST 1048576: true; the input reads as it did. -/
def fnExactAtEndUptoRow : OpenClaim := { program := "ytfmgadchjiplmaa", sum := "770c585b59cb28efbc8ffd03b557c33e9f1b20e1e1a8805a780c2f34772e0440", func := "loop.example/g03317/laws.FnExactAtEnd", spec := "fnExactAtEnd", apart := false, narrowed := true }
def FnExactAtEndUptoSaid : Prop := fnExactAtEndUptoRow.holds Try.pinned (OpenSpec.upto fnExactAtEndSpec)

/-- 'laws.FnExactPaceOf', WHERE WHAT IT READS IS OF BULK AT MOST 1048576: true; the input reads as it did. -/
def fnExactPaceOfUptoRow : OpenClaim := { program := "ytfmgadchjiplmaa", sum := "770c585b59cb28efbc8ffd03b557c33e9f1b20e1e1a8805a780c2f34772e0440", func := "loop.example/g03317/laws.FnExactPaceOf", spec := "fnExactPaceOf", apart := false, narrowed := true }
def FnExactPaceOfUptoSaid : Prop := fnExactPaceOfUptoRow.holds Try.pinned (OpenSpec.upto fnExactPaceOfSpec)

/-- 'laws.FnExactDepthIn', WHERE WHAT IT READS IS OF BULK AT MOST 1048576: true; the input reads as it did. -/
def fnExactDepthInUptoRow : OpenClaim := { program := "ytfmgadchjiplmaa", sum := "770c585b59cb28efbc8ffd03b557c33e9f1b20e1e1a8805a780c2f34772e0440", func := "loop.example/g03317/laws.FnExactDepthIn", spec := "fnExactDepthIn", apart := false, narrowed := true }
def FnExactDepthInUptoSaid : Prop := fnExactDepthInUptoRow.holds Try.pinned (OpenSpec.upto fnExactDepthInSpec)

/-- 'laws.FnExactTollOf', WHERE WHAT IT READS IS OF BULK AT MOST 1048576: true; the input reads as it did. -/
def fnExactTollOfUptoRow : OpenClaim := { program := "ytfmgadchjiplmaa", sum := "770c585b59cb28efbc8ffd03b557c33e9f1b20e1e1a8805a780c2f34772e0440", func := "loop.example/g03317/laws.FnExactTollOf", spec := "fnExactTollOf", apart := false, narrowed := true }
def FnExactTollOfUptoSaid : Prop := fnExactTollOfUptoRow.holds Try.pinned (OpenSpec.upto fnExactTollOfSpec)

/-- 'laws.FnSailing', WHERE WHAT IT READS IS OF BULK AT MOST 1048576: true; the input reads as it did. -/
def fnSailingUptoRow : OpenClaim := { program := "ytfmgadchjiplmaa", sum := "770c585b59cb28efbc8ffd03b557c33e9f1b20e1e1a8805a780c2f34772e0440", func := "loop.example/g03317/laws.FnSailing", spec := "fnSailing", apart := false, narrowed := true }
def FnSailingUptoSaid : Prop := fnSailingUptoRow.holds Try.pinned (OpenSpec.upto fnSailingSpec)

/-- 'laws.FnTolls', WHERE WHAT IT READS IS OF BULK AT MOST 1048576: true; the input reads as it did. -/
def fnTollsUptoRow : OpenClaim := { program := "ytfmgadchjiplmaa", sum := "770c585b59cb28efbc8ffd03b557c33e9f1b20e1e1a8805a780c2f34772e0440", func := "loop.example/g03317/laws.FnTolls", spec := "fnTolls", unfollowed := true, recurses := true, apart := false, narrowed := true }
def FnTollsUptoSaid : Prop := fnTollsUptoRow.holds Try.pinned (OpenSpec.upto fnTollsSpec)

/-- 'laws.FnExactNextSide', WHERE WHAT IT READS IS OF BULK AT MOST 1048576: true; the input reads as it did. -/
def fnExactNextSideUptoRow : OpenClaim := { program := "ytfmgadchjiplmaa", sum := "770c585b59cb28efbc8ffd03b557c33e9f1b20e1e1a8805a780c2f34772e0440", func := "loop.example/g03317/laws.FnExactNextSide", spec := "fnExactNextSide", unfollowed := true, recurses := true, apart := false, narrowed := true }
def FnExactNextSideUptoSaid : Prop := fnExactNextSideUptoRow.holds Try.pinned (OpenSpec.upto fnExactNextSideSpec)

/-- 'laws.FnExactTimeTo', WHERE WHAT IT READS IS OF BULK AT MOST 1048576: true; the input reads as it did. -/
def fnExactTimeToUptoRow : OpenClaim := { program := "ytfmgadchjiplmaa", sum := "770c585b59cb28efbc8ffd03b557c33e9f1b20e1e1a8805a780c2f34772e0440", func := "loop.example/g03317/laws.FnExactTimeTo", spec := "fnExactTimeTo", apart := false, narrowed := true }
def FnExactTimeToUptoSaid : Prop := fnExactTimeToUptoRow.holds Try.pinned (OpenSpec.upto fnExactTimeToSpec)

/-- 'laws.FnExactOrderCalls', WHERE WHAT IT READS IS OF BULK AT MOST 1048576: true; the input reads as it did. -/
def fnExactOrderCallsUptoRow : OpenClaim := { program := "ytfmgadchjiplmaa", sum := "770c585b59cb28efbc8ffd03b557c33e9f1b20e1e1a8805a780c2f34772e0440", func := "loop.example/g03317/laws.FnExactOrderCalls", spec := "fnExactOrderCalls", unfollowed := true, recurses := true, apart := false, narrowed := true }
def FnExactOrderCallsUptoSaid : Prop := fnExactOrderCallsUptoRow.holds Try.pinned (OpenSpec.upto fnExactOrderCallsSpec)

/-- 'laws.FnExactWorkOk', WHERE WHAT IT READS IS OF BULK AT MOST 1048576: true; the input reads as it did. -/
def fnExactWorkOkUptoRow : OpenClaim := { program := "ytfmgadchjiplmaa", sum := "770c585b59cb28efbc8ffd03b557c33e9f1b20e1e1a8805a780c2f34772e0440", func := "loop.example/g03317/laws.FnExactWorkOk", spec := "fnExactWorkOk", apart := false, narrowed := true }
def FnExactWorkOkUptoSaid : Prop := fnExactWorkOkUptoRow.holds Try.pinned (OpenSpec.upto fnExactWorkOkSpec)

/-- 'laws.FnExactGroundedOf', WHERE WHAT IT READS IS OF BULK AT MOST 1048576: true; the input reads as it did. -/
def fnExactGroundedOfUptoRow : OpenClaim := { program := "ytfmgadchjiplmaa", sum := "770c585b59cb28efbc8ffd03b557c33e9f1b20e1e1a8805a780c2f34772e0440", func := "loop.example/g03317/laws.FnExactGroundedOf", spec := "fnExactGroundedOf", apart := false, narrowed := true }
def FnExactGroundedOfUptoSaid : Prop := fnExactGroundedOfUptoRow.holds Try.pinned (OpenSpec.upto fnExactGroundedOfSpec)

/-- 'laws.FnExactMoveOne', WHERE WHAT IT READS IS OF BULK AT MOST 1048576: true; the input reads as it did. -/
def fnExactMoveOneUptoRow : OpenClaim := { program := "ytfmgadchjiplmaa", sum := "770c585b59cb28efbc8ffd03b557c33e9f1b20e1e1a8805a780c2f34772e0440", func := "loop.example/g03317/laws.FnExactMoveOne", spec := "fnExactMoveOne", apart := false, narrowed := true }
def FnExactMoveOneUptoSaid : Prop := fnExactMoveOneUptoRow.holds Try.pinned (OpenSpec.upto fnExactMoveOneSpec)

/-- 'laws.FnExactTollEntries', WHERE WHAT IT READS IS OF BULK AT MOST 1048576: true; the input reads as it did. -/
def fnExactTollEntriesUptoRow : OpenClaim := { program := "ytfmgadchjiplmaa", sum := "770c585b59cb28efbc8ffd03b557c33e9f1b20e1e1a8805a780c2f34772e0440", func := "loop.example/g03317/laws.FnExactTollEntries", spec := "fnExactTollEntries", unfollowed := true, recurses := true, apart := false, narrowed := true }
def FnExactTollEntriesUptoSaid : Prop := fnExactTollEntriesUptoRow.holds Try.pinned (OpenSpec.upto fnExactTollEntriesSpec)

end Rows
end Go.Proofs.Ytfmgadchjiplmaa
