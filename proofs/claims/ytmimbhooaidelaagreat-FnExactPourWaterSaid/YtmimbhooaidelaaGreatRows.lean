/-
  No cell of these rows narrows 'for every input' (looked for: loops, veiled, ifaces, maps, wideKeys, modest, calm, conditions, laid).
  DERIVED. THE GIVEN ROWS OF THIS SEAT. 12 by the template 'for every input the law returns true; each argument reads behind the call as it read before'; 0 by the template 'total and deterministic' (their statements: YtmimbhooaidelaaGreatTotals.lean).
  GIVEN WITH THE SEED: the statements are not yours to turn. If you find one false, say at which input.
  Laid BY PROGRAM, IN A SANDBOX (cutbox-rows.mjs): the forced cells as the released guide's own fill.sh prints them over the translation 86a1c49508710aea… (all of the seat's roots in one cut). By AI agents, Wed Nov 11 2026. No macro, syntax, notation, axiom, sorry.
-/
import Derived.Test.YtmimbhooaidelaaGreatChecked
import GoSem.Claim
import GoSem.ClaimJoined
import GoSem.ClaimMapViews
import Derived.JoinedTies
import Derived.KernelRfl
namespace Go.Proofs.YtmimbhooaidelaaGreat
/- THE CELL 'sum', in the pinned program and in every row, IS THE sha256 OF THE DUMP (.gsa) THAT YtmimbhooaidelaaGreatProg.lean LOADS. Nothing in Lean hashes anything: it is a label: what it is worth is what the hold of that sum in a sandbox is worth. -/
noncomputable def Tryz.pinned : Pinned := { name := "ytmimbhooaidelaagreat", sum := "86a1c49508710aeac1bd0b1fde994d4eadf70ce3f529167bdc281bb115d7c432", checked := Tryz.checked }
namespace Rows
def none {H : Type} : Left H := { results := [], args := [] }

/-- 'laws.FnExactPlacesOf': WHATEVER THE INPUT: true; the input reads as it did. -/
def fnExactPlacesOfSpec : ChangeSpec := { name := "fnExactPlacesOf", fn := fun _ => fun
  | [d] => { results := [.lit (.bool true)], args := [d] }
  | _ => none }
def fnExactPlacesOfRow : OpenClaim := { program := "ytmimbhooaidelaagreat", sum := "86a1c49508710aeac1bd0b1fde994d4eadf70ce3f529167bdc281bb115d7c432", func := "loop.example/g03317/laws.FnExactPlacesOf", spec := "fnExactPlacesOf", apart := false }
def FnExactPlacesOfSaid : Prop := fnExactPlacesOfRow.holds Tryz.pinned (OpenSpec.ofChange fnExactPlacesOfSpec)

/-- ITS FALSE NEIGHBOUR: 'it returns false'. Refute it at one input. -/
def fnExactPlacesOfWrong : ChangeSpec := { name := "fnExactPlacesOf", fn := fun _ => fun
  | [d] => { results := [.lit (.bool false)], args := [d] }
  | _ => none }
def FnExactPlacesOfWrongFalsely : Prop := fnExactPlacesOfRow.holds Tryz.pinned (OpenSpec.ofChange fnExactPlacesOfWrong)

/-- 'laws.FnExactAbleCalls': WHATEVER THE INPUT: true; the input reads as it did. -/
def fnExactAbleCallsSpec : ChangeSpec := { name := "fnExactAbleCalls", fn := fun _ => fun
  | [d1, d2] => { results := [.lit (.bool true)], args := [d1, d2] }
  | _ => none }
def fnExactAbleCallsRow : OpenClaim := { program := "ytmimbhooaidelaagreat", sum := "86a1c49508710aeac1bd0b1fde994d4eadf70ce3f529167bdc281bb115d7c432", func := "loop.example/g03317/laws.FnExactAbleCalls", spec := "fnExactAbleCalls", apart := false }
def FnExactAbleCallsSaid : Prop := fnExactAbleCallsRow.holds Tryz.pinned (OpenSpec.ofChange fnExactAbleCallsSpec)

/-- ITS FALSE NEIGHBOUR: 'it returns false'. Refute it at one input. -/
def fnExactAbleCallsWrong : ChangeSpec := { name := "fnExactAbleCalls", fn := fun _ => fun
  | [d1, d2] => { results := [.lit (.bool false)], args := [d1, d2] }
  | _ => none }
def FnExactAbleCallsWrongFalsely : Prop := fnExactAbleCallsRow.holds Tryz.pinned (OpenSpec.ofChange fnExactAbleCallsWrong)

/-- 'laws.FnExactNewWaterway': WHATEVER THE INPUT: true; the input reads as it did. -/
def fnExactNewWaterwaySpec : ChangeSpec := { name := "fnExactNewWaterway", fn := fun _ => fun
  | [d1, d2, d3, d4] => { results := [.lit (.bool true)], args := [d1, d2, d3, d4] }
  | _ => none }
def fnExactNewWaterwayRow : OpenClaim := { program := "ytmimbhooaidelaagreat", sum := "86a1c49508710aeac1bd0b1fde994d4eadf70ce3f529167bdc281bb115d7c432", func := "loop.example/g03317/laws.FnExactNewWaterway", spec := "fnExactNewWaterway", apart := false }
def FnExactNewWaterwaySaid : Prop := fnExactNewWaterwayRow.holds Tryz.pinned (OpenSpec.ofChange fnExactNewWaterwaySpec)

/-- ITS FALSE NEIGHBOUR: 'it returns false'. Refute it at one input. -/
def fnExactNewWaterwayWrong : ChangeSpec := { name := "fnExactNewWaterway", fn := fun _ => fun
  | [d1, d2, d3, d4] => { results := [.lit (.bool false)], args := [d1, d2, d3, d4] }
  | _ => none }
def FnExactNewWaterwayWrongFalsely : Prop := fnExactNewWaterwayRow.holds Tryz.pinned (OpenSpec.ofChange fnExactNewWaterwayWrong)

/-- 'laws.FnExactEnterTrain': WHATEVER THE INPUT: true; the input reads as it did. -/
def fnExactEnterTrainSpec : ChangeSpec := { name := "fnExactEnterTrain", fn := fun _ => fun
  | [d1, d2] => { results := [.lit (.bool true)], args := [d1, d2] }
  | _ => none }
def fnExactEnterTrainRow : OpenClaim := { program := "ytmimbhooaidelaagreat", sum := "86a1c49508710aeac1bd0b1fde994d4eadf70ce3f529167bdc281bb115d7c432", func := "loop.example/g03317/laws.FnExactEnterTrain", spec := "fnExactEnterTrain", apart := false }
def FnExactEnterTrainSaid : Prop := fnExactEnterTrainRow.holds Tryz.pinned (OpenSpec.ofChange fnExactEnterTrainSpec)

/-- ITS FALSE NEIGHBOUR: 'it returns false'. Refute it at one input. -/
def fnExactEnterTrainWrong : ChangeSpec := { name := "fnExactEnterTrain", fn := fun _ => fun
  | [d1, d2] => { results := [.lit (.bool false)], args := [d1, d2] }
  | _ => none }
def FnExactEnterTrainWrongFalsely : Prop := fnExactEnterTrainRow.holds Tryz.pinned (OpenSpec.ofChange fnExactEnterTrainWrong)

/-- 'laws.FnExactPourWater': WHATEVER THE INPUT: true; the input reads as it did. -/
def fnExactPourWaterSpec : ChangeSpec := { name := "fnExactPourWater", fn := fun _ => fun
  | [d1, d2] => { results := [.lit (.bool true)], args := [d1, d2] }
  | _ => none }
def fnExactPourWaterRow : OpenClaim := { program := "ytmimbhooaidelaagreat", sum := "86a1c49508710aeac1bd0b1fde994d4eadf70ce3f529167bdc281bb115d7c432", func := "loop.example/g03317/laws.FnExactPourWater", spec := "fnExactPourWater", apart := false }
def FnExactPourWaterSaid : Prop := fnExactPourWaterRow.holds Tryz.pinned (OpenSpec.ofChange fnExactPourWaterSpec)

/-- ITS FALSE NEIGHBOUR: 'it returns false'. Refute it at one input. -/
def fnExactPourWaterWrong : ChangeSpec := { name := "fnExactPourWater", fn := fun _ => fun
  | [d1, d2] => { results := [.lit (.bool false)], args := [d1, d2] }
  | _ => none }
def FnExactPourWaterWrongFalsely : Prop := fnExactPourWaterRow.holds Tryz.pinned (OpenSpec.ofChange fnExactPourWaterWrong)

/-- 'laws.FnExactSailAll': WHATEVER THE INPUT: true; the input reads as it did. -/
def fnExactSailAllSpec : ChangeSpec := { name := "fnExactSailAll", fn := fun _ => fun
  | [d] => { results := [.lit (.bool true)], args := [d] }
  | _ => none }
def fnExactSailAllRow : OpenClaim := { program := "ytmimbhooaidelaagreat", sum := "86a1c49508710aeac1bd0b1fde994d4eadf70ce3f529167bdc281bb115d7c432", func := "loop.example/g03317/laws.FnExactSailAll", spec := "fnExactSailAll", apart := false }
def FnExactSailAllSaid : Prop := fnExactSailAllRow.holds Tryz.pinned (OpenSpec.ofChange fnExactSailAllSpec)

/-- ITS FALSE NEIGHBOUR: 'it returns false'. Refute it at one input. -/
def fnExactSailAllWrong : ChangeSpec := { name := "fnExactSailAll", fn := fun _ => fun
  | [d] => { results := [.lit (.bool false)], args := [d] }
  | _ => none }
def FnExactSailAllWrongFalsely : Prop := fnExactSailAllRow.holds Tryz.pinned (OpenSpec.ofChange fnExactSailAllWrong)

/-- 'laws.FnExactSteerWeirs': WHATEVER THE INPUT: true; the input reads as it did. -/
def fnExactSteerWeirsSpec : ChangeSpec := { name := "fnExactSteerWeirs", fn := fun _ => fun
  | [d1, d2] => { results := [.lit (.bool true)], args := [d1, d2] }
  | _ => none }
def fnExactSteerWeirsRow : OpenClaim := { program := "ytmimbhooaidelaagreat", sum := "86a1c49508710aeac1bd0b1fde994d4eadf70ce3f529167bdc281bb115d7c432", func := "loop.example/g03317/laws.FnExactSteerWeirs", spec := "fnExactSteerWeirs", apart := false }
def FnExactSteerWeirsSaid : Prop := fnExactSteerWeirsRow.holds Tryz.pinned (OpenSpec.ofChange fnExactSteerWeirsSpec)

/-- ITS FALSE NEIGHBOUR: 'it returns false'. Refute it at one input. -/
def fnExactSteerWeirsWrong : ChangeSpec := { name := "fnExactSteerWeirs", fn := fun _ => fun
  | [d1, d2] => { results := [.lit (.bool false)], args := [d1, d2] }
  | _ => none }
def FnExactSteerWeirsWrongFalsely : Prop := fnExactSteerWeirsRow.holds Tryz.pinned (OpenSpec.ofChange fnExactSteerWeirsWrong)

/-- 'laws.FnExactWorkLock': WHATEVER THE INPUT: true; the input reads as it did. -/
def fnExactWorkLockSpec : ChangeSpec := { name := "fnExactWorkLock", fn := fun _ => fun
  | [d1, d2] => { results := [.lit (.bool true)], args := [d1, d2] }
  | _ => none }
def fnExactWorkLockRow : OpenClaim := { program := "ytmimbhooaidelaagreat", sum := "86a1c49508710aeac1bd0b1fde994d4eadf70ce3f529167bdc281bb115d7c432", func := "loop.example/g03317/laws.FnExactWorkLock", spec := "fnExactWorkLock", unfollowed := true, recurses := true, apart := false }
def FnExactWorkLockSaid : Prop := fnExactWorkLockRow.holds Tryz.pinned (OpenSpec.ofChange fnExactWorkLockSpec)

/-- ITS FALSE NEIGHBOUR: 'it returns false'. Refute it at one input. -/
def fnExactWorkLockWrong : ChangeSpec := { name := "fnExactWorkLock", fn := fun _ => fun
  | [d1, d2] => { results := [.lit (.bool false)], args := [d1, d2] }
  | _ => none }
def FnExactWorkLockWrongFalsely : Prop := fnExactWorkLockRow.holds Tryz.pinned (OpenSpec.ofChange fnExactWorkLockWrong)

/-- 'laws.FnExactStepWaterway': WHATEVER THE INPUT: true; the input reads as it did. -/
def fnExactStepWaterwaySpec : ChangeSpec := { name := "fnExactStepWaterway", fn := fun _ => fun
  | [d1, d2] => { results := [.lit (.bool true)], args := [d1, d2] }
  | _ => none }
def fnExactStepWaterwayRow : OpenClaim := { program := "ytmimbhooaidelaagreat", sum := "86a1c49508710aeac1bd0b1fde994d4eadf70ce3f529167bdc281bb115d7c432", func := "loop.example/g03317/laws.FnExactStepWaterway", spec := "fnExactStepWaterway", unfollowed := true, recurses := true, apart := false }
def FnExactStepWaterwaySaid : Prop := fnExactStepWaterwayRow.holds Tryz.pinned (OpenSpec.ofChange fnExactStepWaterwaySpec)

/-- ITS FALSE NEIGHBOUR: 'it returns false'. Refute it at one input. -/
def fnExactStepWaterwayWrong : ChangeSpec := { name := "fnExactStepWaterway", fn := fun _ => fun
  | [d1, d2] => { results := [.lit (.bool false)], args := [d1, d2] }
  | _ => none }
def FnExactStepWaterwayWrongFalsely : Prop := fnExactStepWaterwayRow.holds Tryz.pinned (OpenSpec.ofChange fnExactStepWaterwayWrong)

/-- 'laws.FnExactRunWaterway': WHATEVER THE INPUT: true; the input reads as it did. -/
def fnExactRunWaterwaySpec : ChangeSpec := { name := "fnExactRunWaterway", fn := fun _ => fun
  | [d1, d2, d3] => { results := [.lit (.bool true)], args := [d1, d2, d3] }
  | _ => none }
def fnExactRunWaterwayRow : OpenClaim := { program := "ytmimbhooaidelaagreat", sum := "86a1c49508710aeac1bd0b1fde994d4eadf70ce3f529167bdc281bb115d7c432", func := "loop.example/g03317/laws.FnExactRunWaterway", spec := "fnExactRunWaterway", unfollowed := true, recurses := true, apart := false }
def FnExactRunWaterwaySaid : Prop := fnExactRunWaterwayRow.holds Tryz.pinned (OpenSpec.ofChange fnExactRunWaterwaySpec)

/-- ITS FALSE NEIGHBOUR: 'it returns false'. Refute it at one input. -/
def fnExactRunWaterwayWrong : ChangeSpec := { name := "fnExactRunWaterway", fn := fun _ => fun
  | [d1, d2, d3] => { results := [.lit (.bool false)], args := [d1, d2, d3] }
  | _ => none }
def FnExactRunWaterwayWrongFalsely : Prop := fnExactRunWaterwayRow.holds Tryz.pinned (OpenSpec.ofChange fnExactRunWaterwayWrong)

/-- 'laws.FnSplitRun': WHATEVER THE INPUT: true; the input reads as it did. -/
def fnSplitRunSpec : ChangeSpec := { name := "fnSplitRun", fn := fun _ => fun
  | [d] => { results := [.lit (.bool true)], args := [d] }
  | _ => none }
def fnSplitRunRow : OpenClaim := { program := "ytmimbhooaidelaagreat", sum := "86a1c49508710aeac1bd0b1fde994d4eadf70ce3f529167bdc281bb115d7c432", func := "loop.example/g03317/laws.FnSplitRun", spec := "fnSplitRun", unfollowed := true, recurses := true, apart := false }
def FnSplitRunSaid : Prop := fnSplitRunRow.holds Tryz.pinned (OpenSpec.ofChange fnSplitRunSpec)

/-- ITS FALSE NEIGHBOUR: 'it returns false'. Refute it at one input. -/
def fnSplitRunWrong : ChangeSpec := { name := "fnSplitRun", fn := fun _ => fun
  | [d] => { results := [.lit (.bool false)], args := [d] }
  | _ => none }
def FnSplitRunWrongFalsely : Prop := fnSplitRunRow.holds Tryz.pinned (OpenSpec.ofChange fnSplitRunWrong)

/-- 'laws.FnOnlyWater': WHATEVER THE INPUT: true; the input reads as it did. -/
def fnOnlyWaterSpec : ChangeSpec := { name := "fnOnlyWater", fn := fun _ => fun
  | [d] => { results := [.lit (.bool true)], args := [d] }
  | _ => none }
def fnOnlyWaterRow : OpenClaim := { program := "ytmimbhooaidelaagreat", sum := "86a1c49508710aeac1bd0b1fde994d4eadf70ce3f529167bdc281bb115d7c432", func := "loop.example/g03317/laws.FnOnlyWater", spec := "fnOnlyWater", unfollowed := true, recurses := true, apart := false }
def FnOnlyWaterSaid : Prop := fnOnlyWaterRow.holds Tryz.pinned (OpenSpec.ofChange fnOnlyWaterSpec)

/-- ITS FALSE NEIGHBOUR: 'it returns false'. Refute it at one input. -/
def fnOnlyWaterWrong : ChangeSpec := { name := "fnOnlyWater", fn := fun _ => fun
  | [d] => { results := [.lit (.bool false)], args := [d] }
  | _ => none }
def FnOnlyWaterWrongFalsely : Prop := fnOnlyWaterRow.holds Tryz.pinned (OpenSpec.ofChange fnOnlyWaterWrong)

/- THE SECOND FORM. 'bulk': how many values and letters a reading holds, each counted each time it is reached (what is shared counts as often as it is met; a slice's spare places count too). A statement '..UptoSaid' is the law's where the arguments, and the package variables that the reading takes, are together of bulk at most 1048576: NARROWER than '..Said'. Prove '..Said' where nothing that the law and all that it calls make is longer than what came in: it says more and counts as full. Else prove '..UptoSaid'. A law counts once. -/
mutual
def uptoBulk {H : Type} : DataW H → Nat
  | .lit (.string bytes) => bytes.length + 1
  | .lit _ => 1
  | .nil => 1
  | .ptr d => uptoBulk d + 1
  | .slice elems spare => uptoBulkAll elems + uptoBulkAll spare + 1
  | .agg parts => uptoBulkAll parts + 1
  | .iface _ d => uptoBulk d + 1
  | .map entries => uptoBulkEntries entries + 1
  | .held _ => 1
def uptoBulkAll {H : Type} : List (DataW H) → Nat
  | [] => 0
  | d :: r => uptoBulk d + uptoBulkAll r
def uptoBulkEntries {H : Type} : List (Lit × DataW H) → Nat
  | [] => 0
  | x :: r => uptoBulkEntry x + uptoBulkEntries r
def uptoBulkEntry {H : Type} : Lit × DataW H → Nat
  | (.string bytes, d) => bytes.length + uptoBulk d + 1
  | (_, d) => uptoBulk d + 1
 end
def uptoSmall : (H : Type) → List (DataW H) → Bool := fun _ ds => decide (uptoBulkAll ds ≤ 1048576)
def OpenSpec.upto (s : _root_.Go.ChangeSpec) : _root_.Go.OpenSpec := { _root_.Go.OpenSpec.ofChange s with cond := some uptoSmall }

/-- 'laws.FnExactPlacesOf', WHERE WHAT IT READS IS OF BULK AT MOST 1048576: true; the input reads as it did. -/
def fnExactPlacesOfUptoRow : OpenClaim := { program := "ytmimbhooaidelaagreat", sum := "86a1c49508710aeac1bd0b1fde994d4eadf70ce3f529167bdc281bb115d7c432", func := "loop.example/g03317/laws.FnExactPlacesOf", spec := "fnExactPlacesOf", apart := false, narrowed := true }
def FnExactPlacesOfUptoSaid : Prop := fnExactPlacesOfUptoRow.holds Tryz.pinned (OpenSpec.upto fnExactPlacesOfSpec)

/-- 'laws.FnExactAbleCalls', WHERE WHAT IT READS IS OF BULK AT MOST 1048576: true; the input reads as it did. -/
def fnExactAbleCallsUptoRow : OpenClaim := { program := "ytmimbhooaidelaagreat", sum := "86a1c49508710aeac1bd0b1fde994d4eadf70ce3f529167bdc281bb115d7c432", func := "loop.example/g03317/laws.FnExactAbleCalls", spec := "fnExactAbleCalls", apart := false, narrowed := true }
def FnExactAbleCallsUptoSaid : Prop := fnExactAbleCallsUptoRow.holds Tryz.pinned (OpenSpec.upto fnExactAbleCallsSpec)

/-- 'laws.FnExactNewWaterway', WHERE WHAT IT READS IS OF BULK AT MOST 1048576: true; the input reads as it did. -/
def fnExactNewWaterwayUptoRow : OpenClaim := { program := "ytmimbhooaidelaagreat", sum := "86a1c49508710aeac1bd0b1fde994d4eadf70ce3f529167bdc281bb115d7c432", func := "loop.example/g03317/laws.FnExactNewWaterway", spec := "fnExactNewWaterway", apart := false, narrowed := true }
def FnExactNewWaterwayUptoSaid : Prop := fnExactNewWaterwayUptoRow.holds Tryz.pinned (OpenSpec.upto fnExactNewWaterwaySpec)

/-- 'laws.FnExactEnterTrain', WHERE WHAT IT READS IS OF BULK AT MOST 1048576: true; the input reads as it did. -/
def fnExactEnterTrainUptoRow : OpenClaim := { program := "ytmimbhooaidelaagreat", sum := "86a1c49508710aeac1bd0b1fde994d4eadf70ce3f529167bdc281bb115d7c432", func := "loop.example/g03317/laws.FnExactEnterTrain", spec := "fnExactEnterTrain", apart := false, narrowed := true }
def FnExactEnterTrainUptoSaid : Prop := fnExactEnterTrainUptoRow.holds Tryz.pinned (OpenSpec.upto fnExactEnterTrainSpec)

/-- 'laws.FnExactPourWater', WHERE WHAT IT READS IS OF BULK AT MOST 1048576: true; the input reads as it did. -/
def fnExactPourWaterUptoRow : OpenClaim := { program := "ytmimbhooaidelaagreat", sum := "86a1c49508710aeac1bd0b1fde994d4eadf70ce3f529167bdc281bb115d7c432", func := "loop.example/g03317/laws.FnExactPourWater", spec := "fnExactPourWater", apart := false, narrowed := true }
def FnExactPourWaterUptoSaid : Prop := fnExactPourWaterUptoRow.holds Tryz.pinned (OpenSpec.upto fnExactPourWaterSpec)

/-- 'laws.FnExactSailAll', WHERE WHAT IT READS IS OF BULK AT MOST 1048576: true; the input reads as it did. -/
def fnExactSailAllUptoRow : OpenClaim := { program := "ytmimbhooaidelaagreat", sum := "86a1c49508710aeac1bd0b1fde994d4eadf70ce3f529167bdc281bb115d7c432", func := "loop.example/g03317/laws.FnExactSailAll", spec := "fnExactSailAll", apart := false, narrowed := true }
def FnExactSailAllUptoSaid : Prop := fnExactSailAllUptoRow.holds Tryz.pinned (OpenSpec.upto fnExactSailAllSpec)

/-- 'laws.FnExactSteerWeirs', WHERE WHAT IT READS IS OF BULK AT MOST 1048576: true; the input reads as it did. -/
def fnExactSteerWeirsUptoRow : OpenClaim := { program := "ytmimbhooaidelaagreat", sum := "86a1c49508710aeac1bd0b1fde994d4eadf70ce3f529167bdc281bb115d7c432", func := "loop.example/g03317/laws.FnExactSteerWeirs", spec := "fnExactSteerWeirs", apart := false, narrowed := true }
def FnExactSteerWeirsUptoSaid : Prop := fnExactSteerWeirsUptoRow.holds Tryz.pinned (OpenSpec.upto fnExactSteerWeirsSpec)

/-- 'laws.FnExactWorkLock', WHERE WHAT IT READS IS OF BULK AT MOST 1048576: true; the input reads as it did. -/
def fnExactWorkLockUptoRow : OpenClaim := { program := "ytmimbhooaidelaagreat", sum := "86a1c49508710aeac1bd0b1fde994d4eadf70ce3f529167bdc281bb115d7c432", func := "loop.example/g03317/laws.FnExactWorkLock", spec := "fnExactWorkLock", unfollowed := true, recurses := true, apart := false, narrowed := true }
def FnExactWorkLockUptoSaid : Prop := fnExactWorkLockUptoRow.holds Tryz.pinned (OpenSpec.upto fnExactWorkLockSpec)

/-- 'laws.FnExactStepWaterway', WHERE WHAT IT READS IS OF BULK AT MOST 1048576: true; the input reads as it did. -/
def fnExactStepWaterwayUptoRow : OpenClaim := { program := "ytmimbhooaidelaagreat", sum := "86a1c49508710aeac1bd0b1fde994d4eadf70ce3f529167bdc281bb115d7c432", func := "loop.example/g03317/laws.FnExactStepWaterway", spec := "fnExactStepWaterway", unfollowed := true, recurses := true, apart := false, narrowed := true }
def FnExactStepWaterwayUptoSaid : Prop := fnExactStepWaterwayUptoRow.holds Tryz.pinned (OpenSpec.upto fnExactStepWaterwaySpec)

/-- 'laws.FnExactRunWaterway', WHERE WHAT IT READS IS OF BULK AT MOST 1048576: true; the input reads as it did. -/
def fnExactRunWaterwayUptoRow : OpenClaim := { program := "ytmimbhooaidelaagreat", sum := "86a1c49508710aeac1bd0b1fde994d4eadf70ce3f529167bdc281bb115d7c432", func := "loop.example/g03317/laws.FnExactRunWaterway", spec := "fnExactRunWaterway", unfollowed := true, recurses := true, apart := false, narrowed := true }
def FnExactRunWaterwayUptoSaid : Prop := fnExactRunWaterwayUptoRow.holds Tryz.pinned (OpenSpec.upto fnExactRunWaterwaySpec)

/-- 'laws.FnSplitRun', WHERE WHAT IT READS IS OF BULK AT MOST 1048576: true; the input reads as it did. -/
def fnSplitRunUptoRow : OpenClaim := { program := "ytmimbhooaidelaagreat", sum := "86a1c49508710aeac1bd0b1fde994d4eadf70ce3f529167bdc281bb115d7c432", func := "loop.example/g03317/laws.FnSplitRun", spec := "fnSplitRun", unfollowed := true, recurses := true, apart := false, narrowed := true }
def FnSplitRunUptoSaid : Prop := fnSplitRunUptoRow.holds Tryz.pinned (OpenSpec.upto fnSplitRunSpec)

/-- 'laws.FnOnlyWater', WHERE WHAT IT READS IS OF BULK AT MOST 1048576: true; the input reads as it did. -/
def fnOnlyWaterUptoRow : OpenClaim := { program := "ytmimbhooaidelaagreat", sum := "86a1c49508710aeac1bd0b1fde994d4eadf70ce3f529167bdc281bb115d7c432", func := "loop.example/g03317/laws.FnOnlyWater", spec := "fnOnlyWater", unfollowed := true, recurses := true, apart := false, narrowed := true }
def FnOnlyWaterUptoSaid : Prop := fnOnlyWaterUptoRow.holds Tryz.pinned (OpenSpec.upto fnOnlyWaterSpec)

end Rows
end Go.Proofs.YtmimbhooaidelaaGreat
