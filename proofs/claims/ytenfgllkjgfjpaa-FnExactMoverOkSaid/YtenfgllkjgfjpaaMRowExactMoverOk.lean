/- The row of FnExactMoverOk. -/
import Derived.Test.YtenfgllkjgfjpaaMHead
import Derived.Test.YtenfgllkjgfjpaaMT9
import Derived.Test.YtenfgllkjgfjpaaMFit
set_option linter.all false
namespace Go.Proofs.Ytenfgllkjgfjpaa
open Go.ChangeShapes Go.WideShapes Go.RowKit

theorem isLaw_FnExactMoverOk : IsLaw Rows.fnExactMoverOkSpec Try.f12.params.size := by
  refine ⟨rfl, fun H ds h => ?_⟩
  match ds, h with
  | [d0, d1], _ => rfl

theorem lawFacts_FnExactMoverOk : LawFacts Try.prog Try.f12 (Try.f12.resultTypes.getD 0 0) [(true, [.b, .sl [.sl [.i, .i, .i, .i, .i, .i]], .i]), (true, [.i, .i])] :=
  ⟨fact_laid, by kernel_rfl, by kernel_rfl, by kernel_rfl, by kernel_rfl⟩

set_option maxRecDepth 100000 in
theorem lifted_FnExactMoverOk (os : Os) (started : os.Started) (H : Type) (enc : TypeId × Value → H) :
    ReturnsInHanded {} Try.checked os 12 .any (Rows.fnExactMoverOkSpec.pre6 enc Try.prog Try.f12 Rows.fnExactMoverOkRow.domain false) (Rows.fnExactMoverOkSpec.post enc Try.prog Try.f12 false true false false) := by
  refine law_lifted (C := Try.checked) fact_own started (by kernel_rfl) Try.func12
    (ChangeSpec.witness6 (enc := enc) (C := Try.checked) false ⟨#[], #[.agg #[.bool false, .slice none 0 0, .int .i64 0], .agg #[.int .i64 0, .int .i64 0]], []⟩ 8 (by kernel_rfl) (by kernel_rfl) (by kernel_rfl) (by kernel_rfl)) isLaw_FnExactMoverOk lawFacts_FnExactMoverOk ?_
  rintro avs ⟨a, avs0, rfl, ha, b, avs1, rfl, hb, rfl⟩
  cases ha with
  | st h0 =>
    cases hb with
    | st h1 =>
      obtain ⟨x0, rfl⟩ := Mover_fit h0
      obtain ⟨x1, rfl⟩ := Way_fit h1
      exact FnExactMoverOk_c x0 x1
theorem facts_FnExactMoverOk : rowFacts Try.prog 12 Try.f12 Rows.fnExactMoverOkSpec Rows.fnExactMoverOkRow = true := by kernel_rfl
theorem named_FnExactMoverOk : Try.pinned.checked.prog.funcNamed Rows.fnExactMoverOkRow.func = some 12 := by kernel_rfl
theorem inst_FnExactMoverOk : Try.f12.isInstance Try.pinned.checked.prog Rows.fnExactMoverOkRow.origin Rows.fnExactMoverOkRow.targs := (of_decide_eq_true (by kernel_rfl))
theorem wrap_FnExactMoverOk : Try.f12.isWrapper Try.pinned.checked.prog Rows.fnExactMoverOkRow.wrapper Rows.fnExactMoverOkRow.mainSum := by
  unfold Func.isWrapper; first | (rw [if_pos (by decide +kernel)]; kernel_rfl) | (rw [if_neg (by decide +kernel)]; exact ⟨rfl, rfl⟩)
theorem FnExactMoverOk_holds : Rows.FnExactMoverOkSaid :=
  OpenClaim.holds_of_wide (p := Try.pinned) (s := Rows.fnExactMoverOkSpec) (c := Rows.fnExactMoverOkRow) 12 Try.f12 rfl rfl rfl rfl rfl rfl rfl ⟨rfl, rfl, rfl, rfl, rfl⟩ rfl rfl rfl rfl rfl named_FnExactMoverOk Try.func12
    (joined_of seatFacts facts_FnExactMoverOk ⟨rfl, rfl, rfl, rfl, rfl, rfl, rfl, rfl⟩) inst_FnExactMoverOk wrap_FnExactMoverOk (fun os started H enc _ => lifted_FnExactMoverOk os started H enc)
end Go.Proofs.Ytenfgllkjgfjpaa
