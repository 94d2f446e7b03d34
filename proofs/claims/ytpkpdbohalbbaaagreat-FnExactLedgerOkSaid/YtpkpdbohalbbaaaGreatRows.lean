/-
  No cell of these rows narrows 'for every input' (looked for: loops, veiled, ifaces, maps, wideKeys, modest, calm, conditions, laid).
  DERIVED. THE GIVEN ROWS OF THIS SEAT. 2 by the template 'for every input the law returns true; each argument reads behind the call as it read before'; 0 by the template 'total and deterministic' (their statements: YtpkpdbohalbbaaaGreatTotals.lean).
  GIVEN WITH THE SEED: the statements are not yours to turn. If you find one false, say at which input.
  Laid BY PROGRAM, IN A SANDBOX (cutbox-rows.mjs): the forced cells as the released guide's own fill.sh prints them over the translation c0237ac8cb5a58f7… (all of the seat's roots in one cut). By AI agents, Wed Nov 11 2026. No macro, syntax, notation, axiom, sorry.
-/
import Derived.Test.YtpkpdbohalbbaaaGreatChecked
import GoSem.Claim
import GoSem.ClaimJoined
import GoSem.ClaimMapViews
import Derived.JoinedTies
import Derived.KernelRfl
namespace Go.Proofs.YtpkpdbohalbbaaaGreat
/- THE CELL 'sum', in the pinned program and in every row, IS THE sha256 OF THE DUMP (.gsa) THAT YtpkpdbohalbbaaaGreatProg.lean LOADS. Nothing in Lean hashes anything: it is a label: what it is worth is what the hold of that sum in a sandbox is worth. -/
noncomputable def Tryz.pinned : Pinned := { name := "ytpkpdbohalbbaaagreat", sum := "c0237ac8cb5a58f7e313a58eb2858e73af66c34cc30f4940fa17c6c73fa773df", checked := Tryz.checked }
namespace Rows
def none {H : Type} : Left H := { results := [], args := [] }

/-- 'laws.FnExactBoatsOnce': WHATEVER THE INPUT: true; the input reads as it did. -/
def fnExactBoatsOnceSpec : ChangeSpec := { name := "fnExactBoatsOnce", fn := fun _ => fun
  | [d] => { results := [.lit (.bool true)], args := [d] }
  | _ => none }
def fnExactBoatsOnceRow : OpenClaim := { program := "ytpkpdbohalbbaaagreat", sum := "c0237ac8cb5a58f7e313a58eb2858e73af66c34cc30f4940fa17c6c73fa773df", func := "loop.example/g03317/laws.FnExactBoatsOnce", spec := "fnExactBoatsOnce", apart := false }
def FnExactBoatsOnceSaid : Prop := fnExactBoatsOnceRow.holds Tryz.pinned (OpenSpec.ofChange fnExactBoatsOnceSpec)

/-- ITS FALSE NEIGHBOUR: 'it returns false'. Refute it at one input. -/
def fnExactBoatsOnceWrong : ChangeSpec := { name := "fnExactBoatsOnce", fn := fun _ => fun
  | [d] => { results := [.lit (.bool false)], args := [d] }
  | _ => none }
def FnExactBoatsOnceWrongFalsely : Prop := fnExactBoatsOnceRow.holds Tryz.pinned (OpenSpec.ofChange fnExactBoatsOnceWrong)

/-- 'laws.FnExactLedgerOk': WHATEVER THE INPUT: true; the input reads as it did. -/
def fnExactLedgerOkSpec : ChangeSpec := { name := "fnExactLedgerOk", fn := fun _ => fun
  | [d] => { results := [.lit (.bool true)], args := [d] }
  | _ => none }
def fnExactLedgerOkRow : OpenClaim := { program := "ytpkpdbohalbbaaagreat", sum := "c0237ac8cb5a58f7e313a58eb2858e73af66c34cc30f4940fa17c6c73fa773df", func := "loop.example/g03317/laws.FnExactLedgerOk", spec := "fnExactLedgerOk", unfollowed := true, recurses := true, apart := false }
def FnExactLedgerOkSaid : Prop := fnExactLedgerOkRow.holds Tryz.pinned (OpenSpec.ofChange fnExactLedgerOkSpec)

/-- ITS FALSE NEIGHBOUR: 'it returns false'. Refute it at one input. -/
def fnExactLedgerOkWrong : ChangeSpec := { name := "fnExactLedgerOk", fn := fun _ => fun
  | [d] => { results := [.lit (.bool false)], args := [d] }
  | _ => none }
def FnExactLedgerOkWrongFalsely : Prop := fnExactLedgerOkRow.holds Tryz.pinned (OpenSpec.ofChange fnExactLedgerOkWrong)

/- THE SECOND FORM. 'bulk': how many values and letters a reading holds, each counted each time it is reached (what is shared counts as often as it is met; a slice's spare places count too). A statement '..UptoSaid' is the law's where the arguments, and the package variables that the reading takes, are together of bulk at most 1048576: NARROWER than '..Said'. Prove '..Said' where nothing that the law and all that it calls make is longer than what came in: it says more and counts as full. Else prove '..UptoSaid'. A law counts once. -/
mutual
def uptoBulk {H : Type} : DataW H → Nat
  | .lit (.string bytes) => bytes.length + 1
  | .lit _ => 1
  | .nil => 1
  | .ptr d => uptoBulk d + 1
  | .slice elems spare => uptoBulkAll elems + uptoBulkAll spare + 1
  | .agg parts => uptoBulkAll parts + 1
  | .iface _ d => uptoBulk d + 1
  | .map entries => uptoBulkEntries entries + 1
  | .held _ => 1
def uptoBulkAll {H : Type} : List (DataW H) → Nat
  | [] => 0
  | d :: r => uptoBulk d + uptoBulkAll r
def uptoBulkEntries {H : Type} : List (Lit × DataW H) → Nat
  | [] => 0
  | x :: r => uptoBulkEntry x + uptoBulkEntries r
def uptoBulkEntry {H : Type} : Lit × DataW H → Nat
  | (.string bytes, d) => bytes.length + uptoBulk d + 1
  | (_, d) => uptoBulk d + 1
 end
def uptoSmall : (H : Type) → List (DataW H) → Bool := fun _ ds => decide (uptoBulkAll ds ≤ 1048576)
def OpenSpec.upto (s : _root_.Go.ChangeSpec) : _root_.Go.OpenSpec := { _root_.Go.OpenSpec.ofChange s with cond := some uptoSmall }

/-- 'laws.FnExactBoatsOnce', WHERE WHAT IT READS IS OF BULK AT MOST 1048576: true; the input reads as it did. -/
def fnExactBoatsOnceUptoRow : OpenClaim := { program := "ytpkpdbohalbbaaagreat", sum := "c0237ac8cb5a58f7e313a58eb2858e73af66c34cc30f4940fa17c6c73fa773df", func := "loop.example/g03317/laws.FnExactBoatsOnce", spec := "fnExactBoatsOnce", apart := false, narrowed := true }
def FnExactBoatsOnceUptoSaid : Prop := fnExactBoatsOnceUptoRow.holds Tryz.pinned (OpenSpec.upto fnExactBoatsOnceSpec)

/-- 'laws.FnExactLedgerOk', WHERE WHAT IT READS IS OF BULK AT MOST 1048576: true; the input reads as it did. -/
def fnExactLedgerOkUptoRow : OpenClaim := { program := "ytpkpdbohalbbaaagreat", sum := "c0237ac8cb5a58f7e313a58eb2858e73af66c34cc30f4940fa17c6c73fa773df", func := "loop.example/g03317/laws.FnExactLedgerOk", spec := "fnExactLedgerOk", unfollowed := true, recurses := true, apart := false, narrowed := true }
def FnExactLedgerOkUptoSaid : Prop := fnExactLedgerOkUptoRow.holds Tryz.pinned (OpenSpec.upto fnExactLedgerOkSpec)

end Rows
end Go.Proofs.YtpkpdbohalbbaaaGreat
