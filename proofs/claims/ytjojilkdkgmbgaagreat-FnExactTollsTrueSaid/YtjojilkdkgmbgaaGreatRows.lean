/-
  No cell of these rows narrows 'for every input' (looked for: loops, veiled, ifaces, maps, wideKeys, modest, calm, conditions, laid).
  DERIVED. THE GIVEN ROWS OF THIS SEAT. 3 by the template 'for every input the law returns true; each argument reads behind the call as it read before'; 0 by the template 'total and deterministic' (their statements: YtjojilkdkgmbgaaGreatTotals.lean).
  GIVEN WITH THE SEED: the statements are not yours to turn. If you find one false, say at which input.
  Laid BY PROGRAM, IN A SANDBOX (cutbox-rows.mjs): the forced cells as the released guide's own fill.sh prints them over the translation 382becd4129b76d5… (all of the seat's roots in one cut). By AI agents, Wed Nov 11 2026. No macro, syntax, notation, axiom, sorry.
-/
import Derived.Test.YtjojilkdkgmbgaaGreatChecked
import GoSem.Claim
import GoSem.ClaimJoined
import GoSem.ClaimMapViews
import Derived.JoinedTies
import Derived.KernelRfl
namespace Go.Proofs.YtjojilkdkgmbgaaGreat
/- THE CELL 'sum', in the pinned program and in every row, IS THE sha256 OF THE DUMP (.gsa) THAT YtjojilkdkgmbgaaGreatProg.lean LOADS. Nothing in Lean hashes anything: it is a label: what it is worth is what the hold of that sum in a sandbox is worth. -/
noncomputable def Tryz.pinned : Pinned := { name := "ytjojilkdkgmbgaagreat", sum := "382becd4129b76d561418525bf3c942798ce0c983cbe4806e46c4a8c0eb6249a", checked := Tryz.checked }
namespace Rows
def none {H : Type} : Left H := { results := [], args := [] }

/-- 'laws.FnExactTollsTrue': WHATEVER THE INPUT: true; the input reads as it did. -/
def fnExactTollsTrueSpec : ChangeSpec := { name := "fnExactTollsTrue", fn := fun _ => fun
  | [d] => { results := [.lit (.bool true)], args := [d] }
  | _ => none }
def fnExactTollsTrueRow : OpenClaim := { program := "ytjojilkdkgmbgaagreat", sum := "382becd4129b76d561418525bf3c942798ce0c983cbe4806e46c4a8c0eb6249a", func := "loop.example/g03317/laws.FnExactTollsTrue", spec := "fnExactTollsTrue", unfollowed := true, recurses := true, apart := false }
def FnExactTollsTrueSaid : Prop := fnExactTollsTrueRow.holds Tryz.pinned (OpenSpec.ofChange fnExactTollsTrueSpec)

/-- ITS FALSE NEIGHBOUR: 'it returns false'. Refute it at one input. -/
def fnExactTollsTrueWrong : ChangeSpec := { name := "fnExactTollsTrue", fn := fun _ => fun
  | [d] => { results := [.lit (.bool false)], args := [d] }
  | _ => none }
def FnExactTollsTrueWrongFalsely : Prop := fnExactTollsTrueRow.holds Tryz.pinned (OpenSpec.ofChange fnExactTollsTrueWrong)

/-- 'laws.FnExactSailAll': WHATEVER THE INPUT: true; the input reads as it did. -/
def fnExactSailAllSpec : ChangeSpec := { name := "fnExactSailAll", fn := fun _ => fun
  | [d] => { results := [.lit (.bool true)], args := [d] }
  | _ => none }
def fnExactSailAllRow : OpenClaim := { program := "ytjojilkdkgmbgaagreat", sum := "382becd4129b76d561418525bf3c942798ce0c983cbe4806e46c4a8c0eb6249a", func := "loop.example/g03317/laws.FnExactSailAll", spec := "fnExactSailAll", apart := false }
def FnExactSailAllSaid : Prop := fnExactSailAllRow.holds Tryz.pinned (OpenSpec.ofChange fnExactSailAllSpec)

/-- ITS FALSE NEIGHBOUR: 'it returns false'. Refute it at one input. -/
def fnExactSailAllWrong : ChangeSpec := { name := "fnExactSailAll", fn := fun _ => fun
  | [d] => { results := [.lit (.bool false)], args := [d] }
  | _ => none }
def FnExactSailAllWrongFalsely : Prop := fnExactSailAllRow.holds Tryz.pinned (OpenSpec.ofChange fnExactSailAllWrong)

/-- 'laws.FnExactWorkLock': WHATEVER THE INPUT: true; the input reads as it did. -/
def fnExactWorkLockSpec : ChangeSpec := { name := "fnExactWorkLock", fn := fun _ => fun
  | [d1, d2] => { results := [.lit (.bool true)], args := [d1, d2] }
  | _ => none }
def fnExactWorkLockRow : OpenClaim := { program := "ytjojilkdkgmbgaagreat", sum := "382becd4129b76d561418525bf3c942798ce0c983cbe4806e46c4a8c0eb6249a", func := "loop.example/g03317/laws.FnExactWorkLock", spec := "fnExactWorkLock", unfollowed := true, recurses := true, apart := false }
def FnExactWorkLockSaid : Prop := fnExactWorkLockRow.holds Tryz.pinned (OpenSpec.ofChange fnExactWorkLockSpec)

/-- ITS FALSE NEIGHBOUR: 'it returns false'. Refute it at one input. -/
def fnExactWorkLockWrong : ChangeSpec := { name := "fnExactWorkLock", fn := fun _ => fun
  | [d1, d2] => { results := [.lit (.bool false)], args := [d1, d2] }
  | _ => none }
def FnExactWorkLockWrongFalsely : Prop := fnExactWorkLockRow.holds Tryz.pinned (OpenSpec.ofChange fnExactWorkLockWrong)

/- THE SECOND FORM. 'bulk': how many values and letters a reading holds, each counted each time it is reached (what is shared counts as often as it is met; a slice's spare places count too). A statement '..UptoSaid' is the law's where the arguments, and the package variables that the reading takes, are together of bulk at most 1048576: NARROWER than '..Said'. Prove '..Said' where nothing that the law and all that it calls make is longer than what came in: it says more and counts as full. Else prove '..UptoSaid'. A law counts once. -/
mutual
def uptoBulk {H : Type} : DataW H → Nat
  | .lit (.string bytes) => bytes.length + 1
  | .lit _ => 1
  | .nil => 1
  | .ptr d => uptoBulk d + 1
  | .slice elems spare => uptoBulkAll elems + uptoBulkAll spare + 1
  | .agg parts => uptoBulkAll parts + 1
  | .iface _ d => uptoBulk d + 1
  | .map entries => uptoBulkEntries entries + 1
  | .held _ => 1
def uptoBulkAll {H : Type} : List (DataW H) → Nat
  | [] => 0
  | d :: r => uptoBulk d + uptoBulkAll r
def uptoBulkEntries {H : Type} : List (Lit × DataW H) → Nat
  | [] => 0
  | x :: r => uptoBulkEntry x + uptoBulkEntries r
def uptoBulkEntry {H : Type} : Lit × DataW H → Nat
  | (.string bytes, d) => bytes.length + uptoBulk d + 1
  | (_, d) => uptoBulk d + 1
 end
def uptoSmall : (H : Type) → List (DataW H) → Bool := fun _ ds => decide (uptoBulkAll ds ≤ 1048576)
def OpenSpec.upto (s : _root_.Go.ChangeSpec) : _root_.Go.OpenSpec := { _root_.Go.OpenSpec.ofChange s with cond := some uptoSmall }

/-- 'laws.FnExactTollsTrue', WHERE WHAT IT READS IS OF BULK AT MOST 1048576: true; the input reads as it did. -/
def fnExactTollsTrueUptoRow : OpenClaim := { program := "ytjojilkdkgmbgaagreat", sum := "382becd4129b76d561418525bf3c942798ce0c983cbe4806e46c4a8c0eb6249a", func := "loop.example/g03317/laws.FnExactTollsTrue", spec := "fnExactTollsTrue", unfollowed := true, recurses := true, apart := false, narrowed := true }
def FnExactTollsTrueUptoSaid : Prop := fnExactTollsTrueUptoRow.holds Tryz.pinned (OpenSpec.upto fnExactTollsTrueSpec)

/-- 'laws.FnExactSailAll', WHERE WHAT IT READS IS OF BULK AT MOST 1048576: true; the input reads as it did. -/
def fnExactSailAllUptoRow : OpenClaim := { program := "ytjojilkdkgmbgaagreat", sum := "382becd4129b76d561418525bf3c942798ce0c983cbe4806e46c4a8c0eb6249a", func := "loop.example/g03317/laws.FnExactSailAll", spec := "fnExactSailAll", apart := false, narrowed := true }
def FnExactSailAllUptoSaid : Prop := fnExactSailAllUptoRow.holds Tryz.pinned (OpenSpec.upto fnExactSailAllSpec)

/-- 'laws.FnExactWorkLock', WHERE WHAT IT READS IS OF BULK AT MOST 1048576: true; the input reads as it did. -/
def fnExactWorkLockUptoRow : OpenClaim := { program := "ytjojilkdkgmbgaagreat", sum := "382becd4129b76d561418525bf3c942798ce0c983cbe4806e46c4a8c0eb6249a", func := "loop.example/g03317/laws.FnExactWorkLock", spec := "fnExactWorkLock", unfollowed := true, recurses := true, apart := false, narrowed := true }
def FnExactWorkLockUptoSaid : Prop := fnExactWorkLockUptoRow.holds Tryz.pinned (OpenSpec.upto fnExactWorkLockSpec)

end Rows
end Go.Proofs.YtjojilkdkgmbgaaGreat
