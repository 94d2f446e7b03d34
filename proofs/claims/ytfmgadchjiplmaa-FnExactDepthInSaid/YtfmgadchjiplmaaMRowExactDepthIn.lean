/- The row of FnExactDepthIn. -/
import Derived.Test.YtfmgadchjiplmaaMHead
import Derived.Test.YtfmgadchjiplmaaMT3
import Derived.Test.YtfmgadchjiplmaaMFit
set_option linter.all false
namespace Go.Proofs.Ytfmgadchjiplmaa
open Go.ChangeShapes Go.WideShapes Go.RowKit

theorem isLaw_FnExactDepthIn : IsLaw Rows.fnExactDepthInSpec Try.f15.params.size := by
  refine ⟨rfl, fun H ds h => ?_⟩
  match ds, h with
  | [d0, d1], _ => rfl

theorem lawFacts_FnExactDepthIn : LawFacts Try.prog Try.f15 (Try.f15.resultTypes.getD 0 0) [(true, [.i, .i]), (true, [.sl [.i, .i], .i, .sl [.i]])] :=
  ⟨fact_laid, by kernel_rfl, by kernel_rfl, by kernel_rfl, by kernel_rfl⟩

set_option maxRecDepth 100000 in
theorem lifted_FnExactDepthIn (os : Os) (started : os.Started) (H : Type) (enc : TypeId × Value → H) :
    ReturnsInHanded {} Try.checked os 15 .any (Rows.fnExactDepthInSpec.pre6 enc Try.prog Try.f15 Rows.fnExactDepthInRow.domain false) (Rows.fnExactDepthInSpec.post enc Try.prog Try.f15 false true false false) := by
  refine law_lifted (C := Try.checked) fact_own started (by kernel_rfl) Try.func15
    (ChangeSpec.witness6 (enc := enc) (C := Try.checked) false ⟨#[], #[.agg #[.int .i64 0, .int .i64 0], .agg #[.slice none 0 0, .int .i64 0, .slice none 0 0]], []⟩ 8 (by kernel_rfl) (by kernel_rfl) (by kernel_rfl) (by kernel_rfl)) isLaw_FnExactDepthIn lawFacts_FnExactDepthIn ?_
  rintro avs ⟨a, avs0, rfl, ha, b, avs1, rfl, hb, rfl⟩
  cases ha with
  | st h0 =>
    cases hb with
    | st h1 =>
      obtain ⟨x0, rfl⟩ := Way_fit h0
      obtain ⟨x1, rfl⟩ := Reach_fit h1
      exact FnExactDepthIn_c x0 x1
theorem facts_FnExactDepthIn : rowFacts Try.prog 15 Try.f15 Rows.fnExactDepthInSpec Rows.fnExactDepthInRow = true := by kernel_rfl
theorem named_FnExactDepthIn : Try.pinned.checked.prog.funcNamed Rows.fnExactDepthInRow.func = some 15 := by kernel_rfl
theorem inst_FnExactDepthIn : Try.f15.isInstance Try.pinned.checked.prog Rows.fnExactDepthInRow.origin Rows.fnExactDepthInRow.targs := (of_decide_eq_true (by kernel_rfl))
theorem wrap_FnExactDepthIn : Try.f15.isWrapper Try.pinned.checked.prog Rows.fnExactDepthInRow.wrapper Rows.fnExactDepthInRow.mainSum := by
  unfold Func.isWrapper; first | (rw [if_pos (by decide +kernel)]; kernel_rfl) | (rw [if_neg (by decide +kernel)]; exact ⟨rfl, rfl⟩)
theorem FnExactDepthIn_holds : Rows.FnExactDepthInSaid :=
  OpenClaim.holds_of_wide (p := Try.pinned) (s := Rows.fnExactDepthInSpec) (c := Rows.fnExactDepthInRow) 15 Try.f15 rfl rfl rfl rfl rfl rfl rfl ⟨rfl, rfl, rfl, rfl, rfl⟩ rfl rfl rfl rfl rfl named_FnExactDepthIn Try.func15
    (joined_of seatFacts facts_FnExactDepthIn ⟨rfl, rfl, rfl, rfl, rfl, rfl, rfl, rfl⟩) inst_FnExactDepthIn wrap_FnExactDepthIn (fun os started H enc _ => lifted_FnExactDepthIn os started H enc)
end Go.Proofs.Ytfmgadchjiplmaa
