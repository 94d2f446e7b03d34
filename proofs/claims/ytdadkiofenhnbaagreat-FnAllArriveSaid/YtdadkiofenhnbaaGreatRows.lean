/-
  No cell of these rows narrows 'for every input' (looked for: loops, veiled, ifaces, maps, wideKeys, modest, calm, conditions, laid).
  DERIVED. THE GIVEN ROWS OF THIS SEAT. 6 by the template 'for every input the law returns true; each argument reads behind the call as it read before'; 0 by the template 'total and deterministic' (their statements: YtdadkiofenhnbaaGreatTotals.lean).
  GIVEN WITH THE SEED: the statements are not yours to turn. If you find one false, say at which input.
  Laid BY PROGRAM, IN A SANDBOX (cutbox-rows.mjs): the forced cells as the released guide's own fill.sh prints them over the translation 20f7a4e9b61a37e7… (all of the seat's roots in one cut). By AI agents, Wed Nov 11 2026. No macro, syntax, notation, axiom, sorry.
-/
import Derived.Test.YtdadkiofenhnbaaGreatChecked
import GoSem.Claim
import GoSem.ClaimJoined
import GoSem.ClaimMapViews
import Derived.JoinedTies
import Derived.KernelRfl
namespace Go.Proofs.YtdadkiofenhnbaaGreat
/- THE CELL 'sum', in the pinned program and in every row, IS THE sha256 OF THE DUMP (.gsa) THAT YtdadkiofenhnbaaGreatProg.lean LOADS. Nothing in Lean hashes anything: it is a label: what it is worth is what the hold of that sum in a sandbox is worth. -/
noncomputable def Tryz.pinned : Pinned := { name := "ytdadkiofenhnbaagreat", sum := "20f7a4e9b61a37e7c81fd97a3081b9b69a2b921a58ecd233d75ae0ec5caf5d16", checked := Tryz.checked }
namespace Rows
def none {H : Type} : Left H := { results := [], args := [] }

/-- 'laws.FnAllArrive': WHATEVER THE INPUT: true; the input reads as it did. -/
def fnAllArriveSpec : ChangeSpec := { name := "fnAllArrive", fn := fun _ => fun
  | [d] => { results := [.lit (.bool true)], args := [d] }
  | _ => none }
def fnAllArriveRow : OpenClaim := { program := "ytdadkiofenhnbaagreat", sum := "20f7a4e9b61a37e7c81fd97a3081b9b69a2b921a58ecd233d75ae0ec5caf5d16", func := "loop.example/g03317/laws.FnAllArrive", spec := "fnAllArrive", unfollowed := true, recurses := true, apart := false }
def FnAllArriveSaid : Prop := fnAllArriveRow.holds Tryz.pinned (OpenSpec.ofChange fnAllArriveSpec)

/-- ITS FALSE NEIGHBOUR: 'it returns false'. Refute it at one input. -/
def fnAllArriveWrong : ChangeSpec := { name := "fnAllArrive", fn := fun _ => fun
  | [d] => { results := [.lit (.bool false)], args := [d] }
  | _ => none }
def FnAllArriveWrongFalsely : Prop := fnAllArriveRow.holds Tryz.pinned (OpenSpec.ofChange fnAllArriveWrong)

/-- 'laws.FnTop': WHATEVER THE INPUT: true; the input reads as it did. -/
def fnTopSpec : ChangeSpec := { name := "fnTop", fn := fun _ => fun
  | [d] => { results := [.lit (.bool true)], args := [d] }
  | _ => none }
def fnTopRow : OpenClaim := { program := "ytdadkiofenhnbaagreat", sum := "20f7a4e9b61a37e7c81fd97a3081b9b69a2b921a58ecd233d75ae0ec5caf5d16", func := "loop.example/g03317/laws.FnTop", spec := "fnTop", unfollowed := true, recurses := true, apart := false }
def FnTopSaid : Prop := fnTopRow.holds Tryz.pinned (OpenSpec.ofChange fnTopSpec)

/-- ITS FALSE NEIGHBOUR: 'it returns false'. Refute it at one input. -/
def fnTopWrong : ChangeSpec := { name := "fnTop", fn := fun _ => fun
  | [d] => { results := [.lit (.bool false)], args := [d] }
  | _ => none }
def FnTopWrongFalsely : Prop := fnTopRow.holds Tryz.pinned (OpenSpec.ofChange fnTopWrong)

/-- 'laws.FnSplitRun': WHATEVER THE INPUT: true; the input reads as it did. -/
def fnSplitRunSpec : ChangeSpec := { name := "fnSplitRun", fn := fun _ => fun
  | [d] => { results := [.lit (.bool true)], args := [d] }
  | _ => none }
def fnSplitRunRow : OpenClaim := { program := "ytdadkiofenhnbaagreat", sum := "20f7a4e9b61a37e7c81fd97a3081b9b69a2b921a58ecd233d75ae0ec5caf5d16", func := "loop.example/g03317/laws.FnSplitRun", spec := "fnSplitRun", unfollowed := true, recurses := true, apart := false }
def FnSplitRunSaid : Prop := fnSplitRunRow.holds Tryz.pinned (OpenSpec.ofChange fnSplitRunSpec)

/-- ITS FALSE NEIGHBOUR: 'it returns false'. Refute it at one input. -/
def fnSplitRunWrong : ChangeSpec := { name := "fnSplitRun", fn := fun _ => fun
  | [d] => { results := [.lit (.bool false)], args := [d] }
  | _ => none }
def FnSplitRunWrongFalsely : Prop := fnSplitRunRow.holds Tryz.pinned (OpenSpec.ofChange fnSplitRunWrong)

/-- 'laws.FnExactWorkLock': WHATEVER THE INPUT: true; the input reads as it did. -/
def fnExactWorkLockSpec : ChangeSpec := { name := "fnExactWorkLock", fn := fun _ => fun
  | [d1, d2] => { results := [.lit (.bool true)], args := [d1, d2] }
  | _ => none }
def fnExactWorkLockRow : OpenClaim := { program := "ytdadkiofenhnbaagreat", sum := "20f7a4e9b61a37e7c81fd97a3081b9b69a2b921a58ecd233d75ae0ec5caf5d16", func := "loop.example/g03317/laws.FnExactWorkLock", spec := "fnExactWorkLock", unfollowed := true, recurses := true, apart := false }
def FnExactWorkLockSaid : Prop := fnExactWorkLockRow.holds Tryz.pinned (OpenSpec.ofChange fnExactWorkLockSpec)

/-- ITS FALSE NEIGHBOUR: 'it returns false'. Refute it at one input. -/
def fnExactWorkLockWrong : ChangeSpec := { name := "fnExactWorkLock", fn := fun _ => fun
  | [d1, d2] => { results := [.lit (.bool false)], args := [d1, d2] }
  | _ => none }
def FnExactWorkLockWrongFalsely : Prop := fnExactWorkLockRow.holds Tryz.pinned (OpenSpec.ofChange fnExactWorkLockWrong)

/-- 'laws.FnExactStepWaterway': WHATEVER THE INPUT: true; the input reads as it did. -/
def fnExactStepWaterwaySpec : ChangeSpec := { name := "fnExactStepWaterway", fn := fun _ => fun
  | [d1, d2] => { results := [.lit (.bool true)], args := [d1, d2] }
  | _ => none }
def fnExactStepWaterwayRow : OpenClaim := { program := "ytdadkiofenhnbaagreat", sum := "20f7a4e9b61a37e7c81fd97a3081b9b69a2b921a58ecd233d75ae0ec5caf5d16", func := "loop.example/g03317/laws.FnExactStepWaterway", spec := "fnExactStepWaterway", unfollowed := true, recurses := true, apart := false }
def FnExactStepWaterwaySaid : Prop := fnExactStepWaterwayRow.holds Tryz.pinned (OpenSpec.ofChange fnExactStepWaterwaySpec)

/-- ITS FALSE NEIGHBOUR: 'it returns false'. Refute it at one input. -/
def fnExactStepWaterwayWrong : ChangeSpec := { name := "fnExactStepWaterway", fn := fun _ => fun
  | [d1, d2] => { results := [.lit (.bool false)], args := [d1, d2] }
  | _ => none }
def FnExactStepWaterwayWrongFalsely : Prop := fnExactStepWaterwayRow.holds Tryz.pinned (OpenSpec.ofChange fnExactStepWaterwayWrong)

/-- 'laws.FnExactRunWaterway': WHATEVER THE INPUT: true; the input reads as it did. -/
def fnExactRunWaterwaySpec : ChangeSpec := { name := "fnExactRunWaterway", fn := fun _ => fun
  | [d1, d2, d3] => { results := [.lit (.bool true)], args := [d1, d2, d3] }
  | _ => none }
def fnExactRunWaterwayRow : OpenClaim := { program := "ytdadkiofenhnbaagreat", sum := "20f7a4e9b61a37e7c81fd97a3081b9b69a2b921a58ecd233d75ae0ec5caf5d16", func := "loop.example/g03317/laws.FnExactRunWaterway", spec := "fnExactRunWaterway", unfollowed := true, recurses := true, apart := false }
def FnExactRunWaterwaySaid : Prop := fnExactRunWaterwayRow.holds Tryz.pinned (OpenSpec.ofChange fnExactRunWaterwaySpec)

/-- ITS FALSE NEIGHBOUR: 'it returns false'. Refute it at one input. -/
def fnExactRunWaterwayWrong : ChangeSpec := { name := "fnExactRunWaterway", fn := fun _ => fun
  | [d1, d2, d3] => { results := [.lit (.bool false)], args := [d1, d2, d3] }
  | _ => none }
def FnExactRunWaterwayWrongFalsely : Prop := fnExactRunWaterwayRow.holds Tryz.pinned (OpenSpec.ofChange fnExactRunWaterwayWrong)

/- THE SECOND FORM. 'bulk': how many values and letters a reading holds, each counted each time it is reached (what is shared counts as often as it is met; a slice's spare places count too). A statement '..UptoSaid' is the law's where the arguments, and the package variables that the reading takes, are together of bulk at most 1048576: NARROWER than '..Said'. Prove '..Said' where nothing that the law and all that it calls make is longer than what came in: it says more and counts as full. Else prove '..UptoSaid'. A law counts once. -/
mutual
def uptoBulk {H : Type} : DataW H → Nat
  | .lit (.string bytes) => bytes.length + 1
  | .lit _ => 1
  | .nil => 1
  | .ptr d => uptoBulk d + 1
  | .slice elems spare => uptoBulkAll elems + uptoBulkAll spare + 1
  | .agg parts => uptoBulkAll parts + 1
  | .iface _ d => uptoBulk d + 1
  | .map entries => uptoBulkEntries entries + 1
  | .held _ => 1
def uptoBulkAll {H : Type} : List (DataW H) → Nat
  | [] => 0
  | d :: r => uptoBulk d + uptoBulkAll r
def uptoBulkEntries {H : Type} : List (Lit × DataW H) → Nat
  | [] => 0
  | x :: r => uptoBulkEntry x + uptoBulkEntries r
def uptoBulkEntry {H : Type} : Lit × DataW H → Nat
  | (.string bytes, d) => bytes.length + uptoBulk d + 1
  | (_, d) => uptoBulk d + 1
 end
def uptoSmall : (H : Type) → List (DataW H) → Bool := fun _ ds => decide (uptoBulkAll ds ≤ 1048576)
def OpenSpec.upto (s : _root_.Go.ChangeSpec) : _root_.Go.OpenSpec := { _root_.Go.OpenSpec.ofChange s with cond := some uptoSmall }

/-- 'laws.FnAllArrive', WHERE WHAT IT READS IS OF BULK AT MOST 1048576: true; the input reads as it did. -/
def fnAllArriveUptoRow : OpenClaim := { program := "ytdadkiofenhnbaagreat", sum := "20f7a4e9b61a37e7c81fd97a3081b9b69a2b921a58ecd233d75ae0ec5caf5d16", func := "loop.example/g03317/laws.FnAllArrive", spec := "fnAllArrive", unfollowed := true, recurses := true, apart := false, narrowed := true }
def FnAllArriveUptoSaid : Prop := fnAllArriveUptoRow.holds Tryz.pinned (OpenSpec.upto fnAllArriveSpec)

/-- 'laws.FnTop', WHERE WHAT IT READS IS OF BULK AT MOST 1048576: true; the input reads as it did. -/
def fnTopUptoRow : OpenClaim := { program := "ytdadkiofenhnbaagreat", sum := "20f7a4e9b61a37e7c81fd97a3081b9b69a2b921a58ecd233d75ae0ec5caf5d16", func := "loop.example/g03317/laws.FnTop", spec := "fnTop", unfollowed := true, recurses := true, apart := false, narrowed := true }
def FnTopUptoSaid : Prop := fnTopUptoRow.holds Tryz.pinned (OpenSpec.upto fnTopSpec)

/-- 'laws.FnSplitRun', WHERE WHAT IT READS IS OF BULK AT MOST 1048576: true; the input reads as it did. -/
def fnSplitRunUptoRow : OpenClaim := { program := "ytdadkiofenhnbaagreat", sum := "20f7a4e9b61a37e7c81fd97a3081b9b69a2b921a58ecd233d75ae0ec5caf5d16", func := "loop.example/g03317/laws.FnSplitRun", spec := "fnSplitRun", unfollowed := true, recurses := true, apart := false, narrowed := true }
def FnSplitRunUptoSaid : Prop := fnSplitRunUptoRow.holds Tryz.pinned (OpenSpec.upto fnSplitRunSpec)

/-- 'laws.FnExactWorkLock', WHERE WHAT IT READS IS OF BULK AT MOST 1048576: true; the input reads as it did. -/
def fnExactWorkLockUptoRow : OpenClaim := { program := "ytdadkiofenhnbaagreat", sum := "20f7a4e9b61a37e7c81fd97a3081b9b69a2b921a58ecd233d75ae0ec5caf5d16", func := "loop.example/g03317/laws.FnExactWorkLock", spec := "fnExactWorkLock", unfollowed := true, recurses := true, apart := false, narrowed := true }
def FnExactWorkLockUptoSaid : Prop := fnExactWorkLockUptoRow.holds Tryz.pinned (OpenSpec.upto fnExactWorkLockSpec)

/-- 'laws.FnExactStepWaterway', WHERE WHAT IT READS IS OF BULK AT MOST 1048576: true; the input reads as it did. -/
def fnExactStepWaterwayUptoRow : OpenClaim := { program := "ytdadkiofenhnbaagreat", sum := "20f7a4e9b61a37e7c81fd97a3081b9b69a2b921a58ecd233d75ae0ec5caf5d16", func := "loop.example/g03317/laws.FnExactStepWaterway", spec := "fnExactStepWaterway", unfollowed := true, recurses := true, apart := false, narrowed := true }
def FnExactStepWaterwayUptoSaid : Prop := fnExactStepWaterwayUptoRow.holds Tryz.pinned (OpenSpec.upto fnExactStepWaterwaySpec)

/-- 'laws.FnExactRunWaterway', WHERE WHAT IT READS IS OF BULK AT MOST 1048576: true; the input reads as it did. -/
def fnExactRunWaterwayUptoRow : OpenClaim := { program := "ytdadkiofenhnbaagreat", sum := "20f7a4e9b61a37e7c81fd97a3081b9b69a2b921a58ecd233d75ae0ec5caf5d16", func := "loop.example/g03317/laws.FnExactRunWaterway", spec := "fnExactRunWaterway", unfollowed := true, recurses := true, apart := false, narrowed := true }
def FnExactRunWaterwayUptoSaid : Prop := fnExactRunWaterwayUptoRow.holds Tryz.pinned (OpenSpec.upto fnExactRunWaterwaySpec)

end Rows
end Go.Proofs.YtdadkiofenhnbaaGreat
