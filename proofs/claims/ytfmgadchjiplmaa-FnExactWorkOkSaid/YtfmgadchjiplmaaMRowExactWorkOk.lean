/- The row of FnExactWorkOk. -/
import Derived.Test.YtfmgadchjiplmaaMHead
import Derived.Test.YtfmgadchjiplmaaMT12
import Derived.Test.YtfmgadchjiplmaaMFit3
set_option linter.all false
namespace Go.Proofs.Ytfmgadchjiplmaa
open Go.ChangeShapes Go.WideShapes Go.RowKit

theorem isLaw_FnExactWorkOk : IsLaw Rows.fnExactWorkOkSpec Try.f22.params.size := by
  refine ⟨rfl, fun H ds h => ?_⟩
  match ds, h with
  | [d0], _ => rfl

theorem lawFacts_FnExactWorkOk : LawFacts Try.prog Try.f22 (Try.f22.resultTypes.getD 0 0) [(true, [.i, .i, .i, .i, .i, .i, .i, .i, .i, .sl [.b, .sl [.sl [.i, .i, .i, .i, .i, .i]]], .i, .i, .i, .i, .i, .i, .i, .i, .sl [.i, .i], .b, .i, .sl [.b, .sl [.sl [.i, .i, .i, .i, .i, .i]], .i, .i]])] :=
  ⟨fact_laid, by kernel_rfl, by kernel_rfl, by kernel_rfl, by kernel_rfl⟩

set_option maxRecDepth 100000 in
theorem lifted_FnExactWorkOk (os : Os) (started : os.Started) (H : Type) (enc : TypeId × Value → H) :
    ReturnsInHanded {} Try.checked os 22 .any (Rows.fnExactWorkOkSpec.pre6 enc Try.prog Try.f22 Rows.fnExactWorkOkRow.domain false) (Rows.fnExactWorkOkSpec.post enc Try.prog Try.f22 false true false false) := by
  refine law_lifted (C := Try.checked) fact_own started (by kernel_rfl) Try.func22
    (ChangeSpec.witness6 (enc := enc) (C := Try.checked) false ⟨#[], #[.agg #[.int .i64 0, .int .i64 0, .int .i64 0, .int .i64 0, .int .i64 0, .int .i64 0, .int .i64 0, .int .i64 0, .int .i64 0, .slice none 0 0, .int .i64 0, .int .i64 0, .int .i64 0, .int .i64 0, .int .i64 0, .int .i64 0, .int .i64 0, .int .i64 0, .slice none 0 0, .bool false, .int .i64 0, .slice none 0 0]], []⟩ 8 (by kernel_rfl) (by kernel_rfl) (by kernel_rfl) (by kernel_rfl)) isLaw_FnExactWorkOk lawFacts_FnExactWorkOk ?_
  rintro avs ⟨a, avs0, rfl, ha, rfl⟩
  cases ha with
  | st h0 =>
    obtain ⟨x0, rfl⟩ := Work_fit h0
    exact FnExactWorkOk_c x0
theorem facts_FnExactWorkOk : rowFacts Try.prog 22 Try.f22 Rows.fnExactWorkOkSpec Rows.fnExactWorkOkRow = true := by kernel_rfl
theorem named_FnExactWorkOk : Try.pinned.checked.prog.funcNamed Rows.fnExactWorkOkRow.func = some 22 := by kernel_rfl
theorem inst_FnExactWorkOk : Try.f22.isInstance Try.pinned.checked.prog Rows.fnExactWorkOkRow.origin Rows.fnExactWorkOkRow.targs := (of_decide_eq_true (by kernel_rfl))
theorem wrap_FnExactWorkOk : Try.f22.isWrapper Try.pinned.checked.prog Rows.fnExactWorkOkRow.wrapper Rows.fnExactWorkOkRow.mainSum := by
  unfold Func.isWrapper; first | (rw [if_pos (by decide +kernel)]; kernel_rfl) | (rw [if_neg (by decide +kernel)]; exact ⟨rfl, rfl⟩)
theorem FnExactWorkOk_holds : Rows.FnExactWorkOkSaid :=
  OpenClaim.holds_of_wide (p := Try.pinned) (s := Rows.fnExactWorkOkSpec) (c := Rows.fnExactWorkOkRow) 22 Try.f22 rfl rfl rfl rfl rfl rfl rfl ⟨rfl, rfl, rfl, rfl, rfl⟩ rfl rfl rfl rfl rfl named_FnExactWorkOk Try.func22
    (joined_of seatFacts facts_FnExactWorkOk ⟨rfl, rfl, rfl, rfl, rfl, rfl, rfl, rfl⟩) inst_FnExactWorkOk wrap_FnExactWorkOk (fun os started H enc _ => lifted_FnExactWorkOk os started H enc)
end Go.Proofs.Ytfmgadchjiplmaa
