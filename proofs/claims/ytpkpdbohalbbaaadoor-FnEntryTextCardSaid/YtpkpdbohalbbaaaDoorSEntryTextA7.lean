/- What the law FnEntryText stands on: the machine, in short form (names, layout). -/
import Derived.Test.YtpkpdbohalbbaaaDoorSEntryTextA5
import Derived.Lay
import Derived.LaidLaws
import Derived.LaidHandle
import Derived.Stop.Joined
set_option linter.all false
namespace Go.Proofs.YtpkpdbohalbbaaaDoor
open Go.RowKit Go.ChangeShapes Go.WideShapes Go.Deep
theorem yV7 {P : Program} {laid : List (String × DataW Unit)} {w : World} (h : (laid.all fun x=>x.2.handleName?.isNone) = true) (hm : laidMet P laid w) : laidMetH P laid w:=by
 have h1 : ∀ x ∈ laid,x.2.handleName?.isNone = true:=fun x hx=>List.all_eq_true.1 h x hx
 refine laidMetH_of_parts ?_ ?_
 ·rw [List.filter_eq_self.2 h1]; exact hm
 ·rw [List.filter_eq_nil_iff.2 fun x hx=>by rw [Option.isNone_iff_eq_none.1 (h1 x hx)]; simp]; rfl
end Go.Proofs.YtpkpdbohalbbaaaDoor
