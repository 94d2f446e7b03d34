/-
  No cell of these rows narrows 'for every input' (looked for: loops, veiled, ifaces, maps, wideKeys, modest, calm, conditions, laid).
  DERIVED. THE GIVEN ROWS OF THIS SEAT. 3 by the template 'for every input the law returns true; each argument reads behind the call as it read before'; 0 by the template 'total and deterministic' (their statements: YtpcopekamgapaaaGreatTotals.lean).
  GIVEN WITH THE SEED: the statements are not yours to turn. If you find one false, say at which input.
  Laid BY PROGRAM, IN A SANDBOX (cutbox-rows.mjs): the forced cells as the released guide's own fill.sh prints them over the translation 20496c508d02361a… (all of the seat's roots in one cut). By AI agents, Wed Nov 11 2026. No macro, syntax, notation, axiom, sorry.
-/
import Derived.Test.YtpcopekamgapaaaGreatChecked
import GoSem.Claim
import GoSem.ClaimJoined
import GoSem.ClaimMapViews
import Derived.JoinedTies
import Derived.KernelRfl
namespace Go.Proofs.YtpcopekamgapaaaGreat
/- THE CELL 'sum', in the pinned program and in every row, IS THE sha256 OF THE DUMP (.gsa) THAT YtpcopekamgapaaaGreatProg.lean LOADS. Nothing in Lean hashes anything: it is a label: what it is worth is what the hold of that sum in a sandbox is worth. -/
noncomputable def Tryz.pinned : Pinned := { name := "ytpcopekamgapaaagreat", sum := "20496c508d02361a4a7cc8bc17f7dbbd4b92cd281fd7fb75a0d63af5eb902e03", checked := Tryz.checked }
namespace Rows
def none {H : Type} : Left H := { results := [], args := [] }

/-- 'laws.FnExactWaterwayOk': WHATEVER THE INPUT: true; the input reads as it did. -/
def fnExactWaterwayOkSpec : ChangeSpec := { name := "fnExactWaterwayOk", fn := fun _ => fun
  | [d] => { results := [.lit (.bool true)], args := [d] }
  | _ => none }
def fnExactWaterwayOkRow : OpenClaim := { program := "ytpcopekamgapaaagreat", sum := "20496c508d02361a4a7cc8bc17f7dbbd4b92cd281fd7fb75a0d63af5eb902e03", func := "loop.example/g03317/laws.FnExactWaterwayOk", spec := "fnExactWaterwayOk", apart := false }
def FnExactWaterwayOkSaid : Prop := fnExactWaterwayOkRow.holds Tryz.pinned (OpenSpec.ofChange fnExactWaterwayOkSpec)

/-- ITS FALSE NEIGHBOUR: 'it returns false'. Refute it at one input. -/
def fnExactWaterwayOkWrong : ChangeSpec := { name := "fnExactWaterwayOk", fn := fun _ => fun
  | [d] => { results := [.lit (.bool false)], args := [d] }
  | _ => none }
def FnExactWaterwayOkWrongFalsely : Prop := fnExactWaterwayOkRow.holds Tryz.pinned (OpenSpec.ofChange fnExactWaterwayOkWrong)

/-- 'laws.FnExactWaterOf': WHATEVER THE INPUT: true; the input reads as it did. -/
def fnExactWaterOfSpec : ChangeSpec := { name := "fnExactWaterOf", fn := fun _ => fun
  | [d] => { results := [.lit (.bool true)], args := [d] }
  | _ => none }
def fnExactWaterOfRow : OpenClaim := { program := "ytpcopekamgapaaagreat", sum := "20496c508d02361a4a7cc8bc17f7dbbd4b92cd281fd7fb75a0d63af5eb902e03", func := "loop.example/g03317/laws.FnExactWaterOf", spec := "fnExactWaterOf", apart := false }
def FnExactWaterOfSaid : Prop := fnExactWaterOfRow.holds Tryz.pinned (OpenSpec.ofChange fnExactWaterOfSpec)

/-- ITS FALSE NEIGHBOUR: 'it returns false'. Refute it at one input. -/
def fnExactWaterOfWrong : ChangeSpec := { name := "fnExactWaterOf", fn := fun _ => fun
  | [d] => { results := [.lit (.bool false)], args := [d] }
  | _ => none }
def FnExactWaterOfWrongFalsely : Prop := fnExactWaterOfRow.holds Tryz.pinned (OpenSpec.ofChange fnExactWaterOfWrong)

/-- 'laws.FnExactWaterKept': WHATEVER THE INPUT: true; the input reads as it did. -/
def fnExactWaterKeptSpec : ChangeSpec := { name := "fnExactWaterKept", fn := fun _ => fun
  | [d] => { results := [.lit (.bool true)], args := [d] }
  | _ => none }
def fnExactWaterKeptRow : OpenClaim := { program := "ytpcopekamgapaaagreat", sum := "20496c508d02361a4a7cc8bc17f7dbbd4b92cd281fd7fb75a0d63af5eb902e03", func := "loop.example/g03317/laws.FnExactWaterKept", spec := "fnExactWaterKept", apart := false }
def FnExactWaterKeptSaid : Prop := fnExactWaterKeptRow.holds Tryz.pinned (OpenSpec.ofChange fnExactWaterKeptSpec)

/-- ITS FALSE NEIGHBOUR: 'it returns false'. Refute it at one input. -/
def fnExactWaterKeptWrong : ChangeSpec := { name := "fnExactWaterKept", fn := fun _ => fun
  | [d] => { results := [.lit (.bool false)], args := [d] }
  | _ => none }
def FnExactWaterKeptWrongFalsely : Prop := fnExactWaterKeptRow.holds Tryz.pinned (OpenSpec.ofChange fnExactWaterKeptWrong)

/- THE SECOND FORM. 'bulk': how many values and letters a reading holds, each counted each time it is reached (what is shared counts as often as it is met; a slice's spare places count too). A statement '..UptoSaid' is the law's where the arguments, and the package variables that the reading takes, are together of bulk at most 1048576: NARROWER than '..Said'. Prove '..Said' where nothing that the law and all that it calls make is longer than what came in: it says more and counts as full. Else prove '..UptoSaid'. A law counts once. -/
mutual
def uptoBulk {H : Type} : DataW H → Nat
  | .lit (.string bytes) => bytes.length + 1
  | .lit _ => 1
  | .nil => 1
  | .ptr d => uptoBulk d + 1
  | .slice elems spare => uptoBulkAll elems + uptoBulkAll spare + 1
  | .agg parts => uptoBulkAll parts + 1
  | .iface _ d => uptoBulk d + 1
  | .map entries => uptoBulkEntries entries + 1
  | .held _ => 1
def uptoBulkAll {H : Type} : List (DataW H) → Nat
  | [] => 0
  | d :: r => uptoBulk d + uptoBulkAll r
def uptoBulkEntries {H : Type} : List (Lit × DataW H) → Nat
  | [] => 0
  | x :: r => uptoBulkEntry x + uptoBulkEntries r
def uptoBulkEntry {H : Type} : Lit × DataW H → Nat
  | (.string bytes, d) => bytes.length + uptoBulk d + 1
  | (_, d) => uptoBulk d + 1
 end
def uptoSmall : (H : Type) → List (DataW H) → Bool := fun _ ds => decide (uptoBulkAll ds ≤ 1048576)
def OpenSpec.upto (s : _root_.Go.ChangeSpec) : _root_.Go.OpenSpec := { _root_.Go.OpenSpec.ofChange s with cond := some uptoSmall }

/-- 'laws.FnExactWaterwayOk', WHERE WHAT IT READS IS OF BULK AT MOST 1048576: true; the input reads as it did. -/
def fnExactWaterwayOkUptoRow : OpenClaim := { program := "ytpcopekamgapaaagreat", sum := "20496c508d02361a4a7cc8bc17f7dbbd4b92cd281fd7fb75a0d63af5eb902e03", func := "loop.example/g03317/laws.FnExactWaterwayOk", spec := "fnExactWaterwayOk", apart := false, narrowed := true }
def FnExactWaterwayOkUptoSaid : Prop := fnExactWaterwayOkUptoRow.holds Tryz.pinned (OpenSpec.upto fnExactWaterwayOkSpec)

/-- 'laws.FnExactWaterOf', WHERE WHAT IT READS IS OF BULK AT MOST 1048576: true; the input reads as it did. -/
def fnExactWaterOfUptoRow : OpenClaim := { program := "ytpcopekamgapaaagreat", sum := "20496c508d02361a4a7cc8bc17f7dbbd4b92cd281fd7fb75a0d63af5eb902e03", func := "loop.example/g03317/laws.FnExactWaterOf", spec := "fnExactWaterOf", apart := false, narrowed := true }
def FnExactWaterOfUptoSaid : Prop := fnExactWaterOfUptoRow.holds Tryz.pinned (OpenSpec.upto fnExactWaterOfSpec)

/-- 'laws.FnExactWaterKept', WHERE WHAT IT READS IS OF BULK AT MOST 1048576: true; the input reads as it did. -/
def fnExactWaterKeptUptoRow : OpenClaim := { program := "ytpcopekamgapaaagreat", sum := "20496c508d02361a4a7cc8bc17f7dbbd4b92cd281fd7fb75a0d63af5eb902e03", func := "loop.example/g03317/laws.FnExactWaterKept", spec := "fnExactWaterKept", apart := false, narrowed := true }
def FnExactWaterKeptUptoSaid : Prop := fnExactWaterKeptUptoRow.holds Tryz.pinned (OpenSpec.upto fnExactWaterKeptSpec)

end Rows
end Go.Proofs.YtpcopekamgapaaaGreat
