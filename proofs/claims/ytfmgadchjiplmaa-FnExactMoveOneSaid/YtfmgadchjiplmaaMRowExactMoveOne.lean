/- The row of FnExactMoveOne. -/
import Derived.Test.YtfmgadchjiplmaaMHead
import Derived.Test.YtfmgadchjiplmaaMT21
import Derived.Test.YtfmgadchjiplmaaMFit
set_option linter.all false
namespace Go.Proofs.Ytfmgadchjiplmaa
open Go.ChangeShapes Go.WideShapes Go.RowKit

theorem isLaw_FnExactMoveOne : IsLaw Rows.fnExactMoveOneSpec Try.f24.params.size := by
  refine ⟨rfl, fun H ds h => ?_⟩
  match ds, h with
  | [d0, d1, d2], _ => rfl

theorem lawFacts_FnExactMoveOne : LawFacts Try.prog Try.f24 (Try.f24.resultTypes.getD 0 0) [(true, [.b, .sl [.sl [.i, .i, .i, .i, .i, .i]], .i]), (true, [.i, .i]), (true, [.sl [.i, .i], .i, .sl [.i]])] :=
  ⟨fact_laid, by kernel_rfl, by kernel_rfl, by kernel_rfl, by kernel_rfl⟩

set_option maxRecDepth 100000 in
theorem lifted_FnExactMoveOne (os : Os) (started : os.Started) (H : Type) (enc : TypeId × Value → H) :
    ReturnsInHanded {} Try.checked os 24 .any (Rows.fnExactMoveOneSpec.pre6 enc Try.prog Try.f24 Rows.fnExactMoveOneRow.domain false) (Rows.fnExactMoveOneSpec.post enc Try.prog Try.f24 false true false false) := by
  refine law_lifted (C := Try.checked) fact_own started (by kernel_rfl) Try.func24
    (ChangeSpec.witness6 (enc := enc) (C := Try.checked) false ⟨#[], #[.agg #[.bool false, .slice none 0 0, .int .i64 0], .agg #[.int .i64 0, .int .i64 0], .agg #[.slice none 0 0, .int .i64 0, .slice none 0 0]], []⟩ 8 (by kernel_rfl) (by kernel_rfl) (by kernel_rfl) (by kernel_rfl)) isLaw_FnExactMoveOne lawFacts_FnExactMoveOne ?_
  rintro avs ⟨a, avs0, rfl, ha, b, avs1, rfl, hb, c, avs2, rfl, hc, rfl⟩
  cases ha with
  | st h0 =>
    cases hb with
    | st h1 =>
      cases hc with
      | st h2 =>
        obtain ⟨x0, rfl⟩ := Mover_fit h0
        obtain ⟨x1, rfl⟩ := Way_fit h1
        obtain ⟨x2, rfl⟩ := Reach_fit h2
        exact FnExactMoveOne_c x0 x1 x2
theorem facts_FnExactMoveOne : rowFacts Try.prog 24 Try.f24 Rows.fnExactMoveOneSpec Rows.fnExactMoveOneRow = true := by kernel_rfl
theorem named_FnExactMoveOne : Try.pinned.checked.prog.funcNamed Rows.fnExactMoveOneRow.func = some 24 := by kernel_rfl
theorem inst_FnExactMoveOne : Try.f24.isInstance Try.pinned.checked.prog Rows.fnExactMoveOneRow.origin Rows.fnExactMoveOneRow.targs := (of_decide_eq_true (by kernel_rfl))
theorem wrap_FnExactMoveOne : Try.f24.isWrapper Try.pinned.checked.prog Rows.fnExactMoveOneRow.wrapper Rows.fnExactMoveOneRow.mainSum := by
  unfold Func.isWrapper; first | (rw [if_pos (by decide +kernel)]; kernel_rfl) | (rw [if_neg (by decide +kernel)]; exact ⟨rfl, rfl⟩)
theorem FnExactMoveOne_holds : Rows.FnExactMoveOneSaid :=
  OpenClaim.holds_of_wide (p := Try.pinned) (s := Rows.fnExactMoveOneSpec) (c := Rows.fnExactMoveOneRow) 24 Try.f24 rfl rfl rfl rfl rfl rfl rfl ⟨rfl, rfl, rfl, rfl, rfl⟩ rfl rfl rfl rfl rfl named_FnExactMoveOne Try.func24
    (joined_of seatFacts facts_FnExactMoveOne ⟨rfl, rfl, rfl, rfl, rfl, rfl, rfl, rfl⟩) inst_FnExactMoveOne wrap_FnExactMoveOne (fun os started H enc _ => lifted_FnExactMoveOne os started H enc)
end Go.Proofs.Ytfmgadchjiplmaa
