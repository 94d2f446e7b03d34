/- The row of FnExactAtEnd. -/
import Derived.Test.YtenfgllkjgfjpaaMHead
import Derived.Test.YtenfgllkjgfjpaaMT9
import Derived.Test.YtenfgllkjgfjpaaMFit
set_option linter.all false
namespace Go.Proofs.Ytenfgllkjgfjpaa
open Go.ChangeShapes Go.WideShapes Go.RowKit

theorem isLaw_FnExactAtEnd : IsLaw Rows.fnExactAtEndSpec Try.f13.params.size := by
  refine ⟨rfl, fun H ds h => ?_⟩
  match ds, h with
  | [d0, d1], _ => rfl

theorem lawFacts_FnExactAtEnd : LawFacts Try.prog Try.f13 (Try.f13.resultTypes.getD 0 0) [(true, [.b, .sl [.sl [.i, .i, .i, .i, .i, .i]], .i]), (true, [.i, .i])] :=
  ⟨fact_laid, by kernel_rfl, by kernel_rfl, by kernel_rfl, by kernel_rfl⟩

set_option maxRecDepth 100000 in
theorem lifted_FnExactAtEnd (os : Os) (started : os.Started) (H : Type) (enc : TypeId × Value → H) :
    ReturnsInHanded {} Try.checked os 13 .any (Rows.fnExactAtEndSpec.pre6 enc Try.prog Try.f13 Rows.fnExactAtEndRow.domain false) (Rows.fnExactAtEndSpec.post enc Try.prog Try.f13 false true false false) := by
  refine law_lifted (C := Try.checked) fact_own started (by kernel_rfl) Try.func13
    (ChangeSpec.witness6 (enc := enc) (C := Try.checked) false ⟨#[], #[.agg #[.bool false, .slice none 0 0, .int .i64 0], .agg #[.int .i64 0, .int .i64 0]], []⟩ 8 (by kernel_rfl) (by kernel_rfl) (by kernel_rfl) (by kernel_rfl)) isLaw_FnExactAtEnd lawFacts_FnExactAtEnd ?_
  rintro avs ⟨a, avs0, rfl, ha, b, avs1, rfl, hb, rfl⟩
  cases ha with
  | st h0 =>
    cases hb with
    | st h1 =>
      obtain ⟨x0, rfl⟩ := Mover_fit h0
      obtain ⟨x1, rfl⟩ := Way_fit h1
      exact FnExactAtEnd_c x0 x1
theorem facts_FnExactAtEnd : rowFacts Try.prog 13 Try.f13 Rows.fnExactAtEndSpec Rows.fnExactAtEndRow = true := by kernel_rfl
theorem named_FnExactAtEnd : Try.pinned.checked.prog.funcNamed Rows.fnExactAtEndRow.func = some 13 := by kernel_rfl
theorem inst_FnExactAtEnd : Try.f13.isInstance Try.pinned.checked.prog Rows.fnExactAtEndRow.origin Rows.fnExactAtEndRow.targs := (of_decide_eq_true (by kernel_rfl))
theorem wrap_FnExactAtEnd : Try.f13.isWrapper Try.pinned.checked.prog Rows.fnExactAtEndRow.wrapper Rows.fnExactAtEndRow.mainSum := by
  unfold Func.isWrapper; first | (rw [if_pos (by decide +kernel)]; kernel_rfl) | (rw [if_neg (by decide +kernel)]; exact ⟨rfl, rfl⟩)
theorem FnExactAtEnd_holds : Rows.FnExactAtEndSaid :=
  OpenClaim.holds_of_wide (p := Try.pinned) (s := Rows.fnExactAtEndSpec) (c := Rows.fnExactAtEndRow) 13 Try.f13 rfl rfl rfl rfl rfl rfl rfl ⟨rfl, rfl, rfl, rfl, rfl⟩ rfl rfl rfl rfl rfl named_FnExactAtEnd Try.func13
    (joined_of seatFacts facts_FnExactAtEnd ⟨rfl, rfl, rfl, rfl, rfl, rfl, rfl, rfl⟩) inst_FnExactAtEnd wrap_FnExactAtEnd (fun os started H enc _ => lifted_FnExactAtEnd os started H enc)
end Go.Proofs.Ytenfgllkjgfjpaa
