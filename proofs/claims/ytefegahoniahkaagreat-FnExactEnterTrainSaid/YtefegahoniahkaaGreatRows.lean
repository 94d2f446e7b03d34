/-
  No cell of these rows narrows 'for every input' (looked for: loops, veiled, ifaces, maps, wideKeys, modest, calm, conditions, laid).
  DERIVED. THE GIVEN ROWS OF THIS SEAT. 4 by the template 'for every input the law returns true; each argument reads behind the call as it read before'; 0 by the template 'total and deterministic' (their statements: YtefegahoniahkaaGreatTotals.lean).
  GIVEN WITH THE SEED: the statements are not yours to turn. If you find one false, say at which input.
  Laid BY PROGRAM, IN A SANDBOX (cutbox-rows.mjs): the forced cells as the released guide's own fill.sh prints them over the translation 0be4f18f05ef932c… (all of the seat's roots in one cut). By AI agents, Wed Nov 11 2026. No macro, syntax, notation, axiom, sorry.
-/
import Derived.Test.YtefegahoniahkaaGreatChecked
import GoSem.Claim
import GoSem.ClaimJoined
import GoSem.ClaimMapViews
import Derived.JoinedTies
import Derived.KernelRfl
namespace Go.Proofs.YtefegahoniahkaaGreat
/- THE CELL 'sum', in the pinned program and in every row, IS THE sha256 OF THE DUMP (.gsa) THAT YtefegahoniahkaaGreatProg.lean LOADS. Nothing in Lean hashes anything: it is a label: what it is worth is what the hold of that sum in a sandbox is worth. -/
noncomputable def Tryz.pinned : Pinned := { name := "ytefegahoniahkaagreat", sum := "0be4f18f05ef932cf8c6dcaf5bab0759600dbe41f34898fad6ccead5975769f7", checked := Tryz.checked }
namespace Rows
def none {H : Type} : Left H := { results := [], args := [] }

/-- 'laws.FnExactNewWaterway': WHATEVER THE INPUT: true; the input reads as it did. -/
def fnExactNewWaterwaySpec : ChangeSpec := { name := "fnExactNewWaterway", fn := fun _ => fun
  | [d1, d2, d3, d4] => { results := [.lit (.bool true)], args := [d1, d2, d3, d4] }
  | _ => none }
def fnExactNewWaterwayRow : OpenClaim := { program := "ytefegahoniahkaagreat", sum := "0be4f18f05ef932cf8c6dcaf5bab0759600dbe41f34898fad6ccead5975769f7", func := "loop.example/g03317/laws.FnExactNewWaterway", spec := "fnExactNewWaterway", apart := false }
def FnExactNewWaterwaySaid : Prop := fnExactNewWaterwayRow.holds Tryz.pinned (OpenSpec.ofChange fnExactNewWaterwaySpec)

/-- ITS FALSE NEIGHBOUR: 'it returns false'. Refute it at one input. -/
def fnExactNewWaterwayWrong : ChangeSpec := { name := "fnExactNewWaterway", fn := fun _ => fun
  | [d1, d2, d3, d4] => { results := [.lit (.bool false)], args := [d1, d2, d3, d4] }
  | _ => none }
def FnExactNewWaterwayWrongFalsely : Prop := fnExactNewWaterwayRow.holds Tryz.pinned (OpenSpec.ofChange fnExactNewWaterwayWrong)

/-- 'laws.FnExactEnterTrain': WHATEVER THE INPUT: true; the input reads as it did. -/
def fnExactEnterTrainSpec : ChangeSpec := { name := "fnExactEnterTrain", fn := fun _ => fun
  | [d1, d2] => { results := [.lit (.bool true)], args := [d1, d2] }
  | _ => none }
def fnExactEnterTrainRow : OpenClaim := { program := "ytefegahoniahkaagreat", sum := "0be4f18f05ef932cf8c6dcaf5bab0759600dbe41f34898fad6ccead5975769f7", func := "loop.example/g03317/laws.FnExactEnterTrain", spec := "fnExactEnterTrain", apart := false }
def FnExactEnterTrainSaid : Prop := fnExactEnterTrainRow.holds Tryz.pinned (OpenSpec.ofChange fnExactEnterTrainSpec)

/-- ITS FALSE NEIGHBOUR: 'it returns false'. Refute it at one input. -/
def fnExactEnterTrainWrong : ChangeSpec := { name := "fnExactEnterTrain", fn := fun _ => fun
  | [d1, d2] => { results := [.lit (.bool false)], args := [d1, d2] }
  | _ => none }
def FnExactEnterTrainWrongFalsely : Prop := fnExactEnterTrainRow.holds Tryz.pinned (OpenSpec.ofChange fnExactEnterTrainWrong)

/-- 'laws.FnExactSailAll': WHATEVER THE INPUT: true; the input reads as it did. -/
def fnExactSailAllSpec : ChangeSpec := { name := "fnExactSailAll", fn := fun _ => fun
  | [d] => { results := [.lit (.bool true)], args := [d] }
  | _ => none }
def fnExactSailAllRow : OpenClaim := { program := "ytefegahoniahkaagreat", sum := "0be4f18f05ef932cf8c6dcaf5bab0759600dbe41f34898fad6ccead5975769f7", func := "loop.example/g03317/laws.FnExactSailAll", spec := "fnExactSailAll", apart := false }
def FnExactSailAllSaid : Prop := fnExactSailAllRow.holds Tryz.pinned (OpenSpec.ofChange fnExactSailAllSpec)

/-- ITS FALSE NEIGHBOUR: 'it returns false'. Refute it at one input. -/
def fnExactSailAllWrong : ChangeSpec := { name := "fnExactSailAll", fn := fun _ => fun
  | [d] => { results := [.lit (.bool false)], args := [d] }
  | _ => none }
def FnExactSailAllWrongFalsely : Prop := fnExactSailAllRow.holds Tryz.pinned (OpenSpec.ofChange fnExactSailAllWrong)

/-- 'laws.FnExactSteerWeirs': WHATEVER THE INPUT: true; the input reads as it did. -/
def fnExactSteerWeirsSpec : ChangeSpec := { name := "fnExactSteerWeirs", fn := fun _ => fun
  | [d1, d2] => { results := [.lit (.bool true)], args := [d1, d2] }
  | _ => none }
def fnExactSteerWeirsRow : OpenClaim := { program := "ytefegahoniahkaagreat", sum := "0be4f18f05ef932cf8c6dcaf5bab0759600dbe41f34898fad6ccead5975769f7", func := "loop.example/g03317/laws.FnExactSteerWeirs", spec := "fnExactSteerWeirs", apart := false }
def FnExactSteerWeirsSaid : Prop := fnExactSteerWeirsRow.holds Tryz.pinned (OpenSpec.ofChange fnExactSteerWeirsSpec)

/-- ITS FALSE NEIGHBOUR: 'it returns false'. Refute it at one input. -/
def fnExactSteerWeirsWrong : ChangeSpec := { name := "fnExactSteerWeirs", fn := fun _ => fun
  | [d1, d2] => { results := [.lit (.bool false)], args := [d1, d2] }
  | _ => none }
def FnExactSteerWeirsWrongFalsely : Prop := fnExactSteerWeirsRow.holds Tryz.pinned (OpenSpec.ofChange fnExactSteerWeirsWrong)

/- THE SECOND FORM. 'bulk': how many values and letters a reading holds, each counted each time it is reached (what is shared counts as often as it is met; a slice's spare places count too). A statement '..UptoSaid' is the law's where the arguments, and the package variables that the reading takes, are together of bulk at most 1048576: NARROWER than '..Said'. Prove '..Said' where nothing that the law and all that it calls make is longer than what came in: it says more and counts as full. Else prove '..UptoSaid'. A law counts once. -/
mutual
def uptoBulk {H : Type} : DataW H → Nat
  | .lit (.string bytes) => bytes.length + 1
  | .lit _ => 1
  | .nil => 1
  | .ptr d => uptoBulk d + 1
  | .slice elems spare => uptoBulkAll elems + uptoBulkAll spare + 1
  | .agg parts => uptoBulkAll parts + 1
  | .iface _ d => uptoBulk d + 1
  | .map entries => uptoBulkEntries entries + 1
  | .held _ => 1
def uptoBulkAll {H : Type} : List (DataW H) → Nat
  | [] => 0
  | d :: r => uptoBulk d + uptoBulkAll r
def uptoBulkEntries {H : Type} : List (Lit × DataW H) → Nat
  | [] => 0
  | x :: r => uptoBulkEntry x + uptoBulkEntries r
def uptoBulkEntry {H : Type} : Lit × DataW H → Nat
  | (.string bytes, d) => bytes.length + uptoBulk d + 1
  | (_, d) => uptoBulk d + 1
 end
def uptoSmall : (H : Type) → List (DataW H) → Bool := fun _ ds => decide (uptoBulkAll ds ≤ 1048576)
def OpenSpec.upto (s : _root_.Go.ChangeSpec) : _root_.Go.OpenSpec := { _root_.Go.OpenSpec.ofChange s with cond := some uptoSmall }

/-- 'laws.FnExactNewWaterway', WHERE WHAT IT READS IS OF BULK AT MOST 1048576: true; the input reads as it did. -/
def fnExactNewWaterwayUptoRow : OpenClaim := { program := "ytefegahoniahkaagreat", sum := "0be4f18f05ef932cf8c6dcaf5bab0759600dbe41f34898fad6ccead5975769f7", func := "loop.example/g03317/laws.FnExactNewWaterway", spec := "fnExactNewWaterway", apart := false, narrowed := true }
def FnExactNewWaterwayUptoSaid : Prop := fnExactNewWaterwayUptoRow.holds Tryz.pinned (OpenSpec.upto fnExactNewWaterwaySpec)

/-- 'laws.FnExactEnterTrain', WHERE WHAT IT READS IS OF BULK AT MOST 1048576: true; the input reads as it did. -/
def fnExactEnterTrainUptoRow : OpenClaim := { program := "ytefegahoniahkaagreat", sum := "0be4f18f05ef932cf8c6dcaf5bab0759600dbe41f34898fad6ccead5975769f7", func := "loop.example/g03317/laws.FnExactEnterTrain", spec := "fnExactEnterTrain", apart := false, narrowed := true }
def FnExactEnterTrainUptoSaid : Prop := fnExactEnterTrainUptoRow.holds Tryz.pinned (OpenSpec.upto fnExactEnterTrainSpec)

/-- 'laws.FnExactSailAll', WHERE WHAT IT READS IS OF BULK AT MOST 1048576: true; the input reads as it did. -/
def fnExactSailAllUptoRow : OpenClaim := { program := "ytefegahoniahkaagreat", sum := "0be4f18f05ef932cf8c6dcaf5bab0759600dbe41f34898fad6ccead5975769f7", func := "loop.example/g03317/laws.FnExactSailAll", spec := "fnExactSailAll", apart := false, narrowed := true }
def FnExactSailAllUptoSaid : Prop := fnExactSailAllUptoRow.holds Tryz.pinned (OpenSpec.upto fnExactSailAllSpec)

/-- 'laws.FnExactSteerWeirs', WHERE WHAT IT READS IS OF BULK AT MOST 1048576: true; the input reads as it did. -/
def fnExactSteerWeirsUptoRow : OpenClaim := { program := "ytefegahoniahkaagreat", sum := "0be4f18f05ef932cf8c6dcaf5bab0759600dbe41f34898fad6ccead5975769f7", func := "loop.example/g03317/laws.FnExactSteerWeirs", spec := "fnExactSteerWeirs", apart := false, narrowed := true }
def FnExactSteerWeirsUptoSaid : Prop := fnExactSteerWeirsUptoRow.holds Tryz.pinned (OpenSpec.upto fnExactSteerWeirsSpec)

end Rows
end Go.Proofs.YtefegahoniahkaaGreat
