/-
  No cell of these rows narrows 'for every input' (looked for: loops, veiled, ifaces, maps, wideKeys, modest, calm, conditions, laid).
  DERIVED. THE GIVEN ROWS OF THIS SEAT. 4 by the template 'for every input the law returns true; each argument reads behind the call as it read before'; 0 by the template 'total and deterministic' (their statements: YtekgilpcgbbfcaaGreatTotals.lean).
  GIVEN WITH THE SEED: the statements are not yours to turn. If you find one false, say at which input.
  Laid BY PROGRAM, IN A SANDBOX (cutbox-rows.mjs): the forced cells as the released guide's own fill.sh prints them over the translation 53f9b3df766c1f53… (all of the seat's roots in one cut). By AI agents, Wed Nov 11 2026. No macro, syntax, notation, axiom, sorry.
-/
import Derived.Test.YtekgilpcgbbfcaaGreatChecked
import GoSem.Claim
import GoSem.ClaimJoined
import GoSem.ClaimMapViews
import Derived.JoinedTies
import Derived.KernelRfl
namespace Go.Proofs.YtekgilpcgbbfcaaGreat
/- THE CELL 'sum', in the pinned program and in every row, IS THE sha256 OF THE DUMP (.gsa) THAT YtekgilpcgbbfcaaGreatProg.lean LOADS. Nothing in Lean hashes anything: it is a label: what it is worth is what the hold of that sum in a sandbox is worth. -/
noncomputable def Tryz.pinned : Pinned := { name := "ytekgilpcgbbfcaagreat", sum := "53f9b3df766c1f5327736ca7d1f42cbaa5a008dbfefe31128fc6f1871407ca74", checked := Tryz.checked }
namespace Rows
def none {H : Type} : Left H := { results := [], args := [] }

/-- 'laws.FnSplitRun': WHATEVER THE INPUT: true; the input reads as it did. -/
def fnSplitRunSpec : ChangeSpec := { name := "fnSplitRun", fn := fun _ => fun
  | [d] => { results := [.lit (.bool true)], args := [d] }
  | _ => none }
def fnSplitRunRow : OpenClaim := { program := "ytekgilpcgbbfcaagreat", sum := "53f9b3df766c1f5327736ca7d1f42cbaa5a008dbfefe31128fc6f1871407ca74", func := "loop.example/g03317/laws.FnSplitRun", spec := "fnSplitRun", unfollowed := true, recurses := true, apart := false }
def FnSplitRunSaid : Prop := fnSplitRunRow.holds Tryz.pinned (OpenSpec.ofChange fnSplitRunSpec)

/-- ITS FALSE NEIGHBOUR: 'it returns false'. Refute it at one input. -/
def fnSplitRunWrong : ChangeSpec := { name := "fnSplitRun", fn := fun _ => fun
  | [d] => { results := [.lit (.bool false)], args := [d] }
  | _ => none }
def FnSplitRunWrongFalsely : Prop := fnSplitRunRow.holds Tryz.pinned (OpenSpec.ofChange fnSplitRunWrong)

/-- 'laws.FnExactWorkLock': WHATEVER THE INPUT: true; the input reads as it did. -/
def fnExactWorkLockSpec : ChangeSpec := { name := "fnExactWorkLock", fn := fun _ => fun
  | [d1, d2] => { results := [.lit (.bool true)], args := [d1, d2] }
  | _ => none }
def fnExactWorkLockRow : OpenClaim := { program := "ytekgilpcgbbfcaagreat", sum := "53f9b3df766c1f5327736ca7d1f42cbaa5a008dbfefe31128fc6f1871407ca74", func := "loop.example/g03317/laws.FnExactWorkLock", spec := "fnExactWorkLock", unfollowed := true, recurses := true, apart := false }
def FnExactWorkLockSaid : Prop := fnExactWorkLockRow.holds Tryz.pinned (OpenSpec.ofChange fnExactWorkLockSpec)

/-- ITS FALSE NEIGHBOUR: 'it returns false'. Refute it at one input. -/
def fnExactWorkLockWrong : ChangeSpec := { name := "fnExactWorkLock", fn := fun _ => fun
  | [d1, d2] => { results := [.lit (.bool false)], args := [d1, d2] }
  | _ => none }
def FnExactWorkLockWrongFalsely : Prop := fnExactWorkLockRow.holds Tryz.pinned (OpenSpec.ofChange fnExactWorkLockWrong)

/-- 'laws.FnExactStepWaterway': WHATEVER THE INPUT: true; the input reads as it did. -/
def fnExactStepWaterwaySpec : ChangeSpec := { name := "fnExactStepWaterway", fn := fun _ => fun
  | [d1, d2] => { results := [.lit (.bool true)], args := [d1, d2] }
  | _ => none }
def fnExactStepWaterwayRow : OpenClaim := { program := "ytekgilpcgbbfcaagreat", sum := "53f9b3df766c1f5327736ca7d1f42cbaa5a008dbfefe31128fc6f1871407ca74", func := "loop.example/g03317/laws.FnExactStepWaterway", spec := "fnExactStepWaterway", unfollowed := true, recurses := true, apart := false }
def FnExactStepWaterwaySaid : Prop := fnExactStepWaterwayRow.holds Tryz.pinned (OpenSpec.ofChange fnExactStepWaterwaySpec)

/-- ITS FALSE NEIGHBOUR: 'it returns false'. Refute it at one input. -/
def fnExactStepWaterwayWrong : ChangeSpec := { name := "fnExactStepWaterway", fn := fun _ => fun
  | [d1, d2] => { results := [.lit (.bool false)], args := [d1, d2] }
  | _ => none }
def FnExactStepWaterwayWrongFalsely : Prop := fnExactStepWaterwayRow.holds Tryz.pinned (OpenSpec.ofChange fnExactStepWaterwayWrong)

/-- 'laws.FnExactRunWaterway': WHATEVER THE INPUT: true; the input reads as it did. -/
def fnExactRunWaterwaySpec : ChangeSpec := { name := "fnExactRunWaterway", fn := fun _ => fun
  | [d1, d2, d3] => { results := [.lit (.bool true)], args := [d1, d2, d3] }
  | _ => none }
def fnExactRunWaterwayRow : OpenClaim := { program := "ytekgilpcgbbfcaagreat", sum := "53f9b3df766c1f5327736ca7d1f42cbaa5a008dbfefe31128fc6f1871407ca74", func := "loop.example/g03317/laws.FnExactRunWaterway", spec := "fnExactRunWaterway", unfollowed := true, recurses := true, apart := false }
def FnExactRunWaterwaySaid : Prop := fnExactRunWaterwayRow.holds Tryz.pinned (OpenSpec.ofChange fnExactRunWaterwaySpec)

/-- ITS FALSE NEIGHBOUR: 'it returns false'. Refute it at one input. -/
def fnExactRunWaterwayWrong : ChangeSpec := { name := "fnExactRunWaterway", fn := fun _ => fun
  | [d1, d2, d3] => { results := [.lit (.bool false)], args := [d1, d2, d3] }
  | _ => none }
def FnExactRunWaterwayWrongFalsely : Prop := fnExactRunWaterwayRow.holds Tryz.pinned (OpenSpec.ofChange fnExactRunWaterwayWrong)

/- THE SECOND FORM. 'bulk': how many values and letters a reading holds, each counted each time it is reached (what is shared counts as often as it is met; a slice's spare places count too). A statement '..UptoSaid' is the law's where the arguments, and the package variables that the reading takes, are together of bulk at most 1048576: NARROWER than '..Said'. Prove '..Said' where nothing that the law and all that it calls make is longer than what came in: it says more and counts as full. Else prove '..UptoSaid'. A law counts once. -/
mutual
def uptoBulk {H : Type} : DataW H → Nat
  | .lit (.string bytes) => bytes.length + 1
  | .lit _ => 1
  | .nil => 1
  | .ptr d => uptoBulk d + 1
  | .slice elems spare => uptoBulkAll elems + uptoBulkAll spare + 1
  | .agg parts => uptoBulkAll parts + 1
  | .iface _ d => uptoBulk d + 1
  | .map entries => uptoBulkEntries entries + 1
  | .held _ => 1
def uptoBulkAll {H : Type} : List (DataW H) → Nat
  | [] => 0
  | d :: r => uptoBulk d + uptoBulkAll r
def uptoBulkEntries {H : Type} : List (Lit × DataW H) → Nat
  | [] => 0
  | x :: r => uptoBulkEntry x + uptoBulkEntries r
def uptoBulkEntry {H : Type} : Lit × DataW H → Nat
  | (.string bytes, d) => bytes.length + uptoBulk d + 1
  | (_, d) => uptoBulk d + 1
 end
def uptoSmall : (H : Type) → List (DataW H) → Bool := fun _ ds => decide (uptoBulkAll ds ≤ 1048576)
def OpenSpec.upto (s : _root_.Go.ChangeSpec) : _root_.Go.OpenSpec := { _root_.Go.OpenSpec.ofChange s with cond := some uptoSmall }

/-- 'laws.FnSplitRun', WHERE WHAT IT READS IS OF BULK AT MOST 1048576: true; the input reads as it did. -/
def fnSplitRunUptoRow : OpenClaim := { program := "ytekgilpcgbbfcaagreat", sum := "53f9b3df766c1f5327736ca7d1f42cbaa5a008dbfefe31128fc6f1871407ca74", func := "loop.example/g03317/laws.FnSplitRun", spec := "fnSplitRun", unfollowed := true, recurses := true, apart := false, narrowed := true }
def FnSplitRunUptoSaid : Prop := fnSplitRunUptoRow.holds Tryz.pinned (OpenSpec.upto fnSplitRunSpec)

/-- 'laws.FnExactWorkLock', WHERE WHAT IT READS IS OF BULK AT MOST 1048576: true; the input reads as it did. -/
def fnExactWorkLockUptoRow : OpenClaim := { program := "ytekgilpcgbbfcaagreat", sum := "53f9b3df766c1f5327736ca7d1f42cbaa5a008dbfefe31128fc6f1871407ca74", func := "loop.example/g03317/laws.FnExactWorkLock", spec := "fnExactWorkLock", unfollowed := true, recurses := true, apart := false, narrowed := true }
def FnExactWorkLockUptoSaid : Prop := fnExactWorkLockUptoRow.holds Tryz.pinned (OpenSpec.upto fnExactWorkLockSpec)

/-- 'laws.FnExactStepWaterway', WHERE WHAT IT READS IS OF BULK AT MOST 1048576: true; the input reads as it did. -/
def fnExactStepWaterwayUptoRow : OpenClaim := { program := "ytekgilpcgbbfcaagreat", sum := "53f9b3df766c1f5327736ca7d1f42cbaa5a008dbfefe31128fc6f1871407ca74", func := "loop.example/g03317/laws.FnExactStepWaterway", spec := "fnExactStepWaterway", unfollowed := true, recurses := true, apart := false, narrowed := true }
def FnExactStepWaterwayUptoSaid : Prop := fnExactStepWaterwayUptoRow.holds Tryz.pinned (OpenSpec.upto fnExactStepWaterwaySpec)

/-- 'laws.FnExactRunWaterway', WHERE WHAT IT READS IS OF BULK AT MOST 1048576: true; the input reads as it did. -/
def fnExactRunWaterwayUptoRow : OpenClaim := { program := "ytekgilpcgbbfcaagreat", sum := "53f9b3df766c1f5327736ca7d1f42cbaa5a008dbfefe31128fc6f1871407ca74", func := "loop.example/g03317/laws.FnExactRunWaterway", spec := "fnExactRunWaterway", unfollowed := true, recurses := true, apart := false, narrowed := true }
def FnExactRunWaterwayUptoSaid : Prop := fnExactRunWaterwayUptoRow.holds Tryz.pinned (OpenSpec.upto fnExactRunWaterwaySpec)

end Rows
end Go.Proofs.YtekgilpcgbbfcaaGreat
