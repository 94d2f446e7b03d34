/- The row of FnExactPaceOf. -/
import Derived.Test.YtenfgllkjgfjpaaMHead
import Derived.Test.YtenfgllkjgfjpaaMT11
import Derived.Test.YtenfgllkjgfjpaaMFit
set_option linter.all false
namespace Go.Proofs.Ytenfgllkjgfjpaa
open Go.ChangeShapes Go.WideShapes Go.RowKit

theorem isLaw_FnExactPaceOf : IsLaw Rows.fnExactPaceOfSpec Try.f14.params.size := by
  refine ⟨rfl, fun H ds h => ?_⟩
  match ds, h with
  | [d0, d1], _ => rfl

theorem lawFacts_FnExactPaceOf : LawFacts Try.prog Try.f14 (Try.f14.resultTypes.getD 0 0) [(true, [.b, .sl [.sl [.i, .i, .i, .i, .i, .i]]]), (false, [.i])] :=
  ⟨fact_laid, by kernel_rfl, by kernel_rfl, by kernel_rfl, by kernel_rfl⟩

set_option maxRecDepth 100000 in
theorem lifted_FnExactPaceOf (os : Os) (started : os.Started) (H : Type) (enc : TypeId × Value → H) :
    ReturnsInHanded {} Try.checked os 14 .any (Rows.fnExactPaceOfSpec.pre6 enc Try.prog Try.f14 Rows.fnExactPaceOfRow.domain false) (Rows.fnExactPaceOfSpec.post enc Try.prog Try.f14 false true false false) := by
  refine law_lifted (C := Try.checked) fact_own started (by kernel_rfl) Try.func14
    (ChangeSpec.witness6 (enc := enc) (C := Try.checked) false ⟨#[], #[.agg #[.bool false, .slice none 0 0], .int .i64 0], []⟩ 8 (by kernel_rfl) (by kernel_rfl) (by kernel_rfl) (by kernel_rfl)) isLaw_FnExactPaceOf lawFacts_FnExactPaceOf ?_
  rintro avs ⟨a, avs0, rfl, ha, b, avs1, rfl, hb, rfl⟩
  cases ha with
  | st h0 =>
    cases hb with
    | one h1 =>
      obtain ⟨x0, rfl⟩ := Train_fit h0
      obtain ⟨x1, rfl⟩ := h1.i_inv
      exact FnExactPaceOf_c x0 x1
theorem facts_FnExactPaceOf : rowFacts Try.prog 14 Try.f14 Rows.fnExactPaceOfSpec Rows.fnExactPaceOfRow = true := by kernel_rfl
theorem named_FnExactPaceOf : Try.pinned.checked.prog.funcNamed Rows.fnExactPaceOfRow.func = some 14 := by kernel_rfl
theorem inst_FnExactPaceOf : Try.f14.isInstance Try.pinned.checked.prog Rows.fnExactPaceOfRow.origin Rows.fnExactPaceOfRow.targs := (of_decide_eq_true (by kernel_rfl))
theorem wrap_FnExactPaceOf : Try.f14.isWrapper Try.pinned.checked.prog Rows.fnExactPaceOfRow.wrapper Rows.fnExactPaceOfRow.mainSum := by
  unfold Func.isWrapper; first | (rw [if_pos (by decide +kernel)]; kernel_rfl) | (rw [if_neg (by decide +kernel)]; exact ⟨rfl, rfl⟩)
theorem FnExactPaceOf_holds : Rows.FnExactPaceOfSaid :=
  OpenClaim.holds_of_wide (p := Try.pinned) (s := Rows.fnExactPaceOfSpec) (c := Rows.fnExactPaceOfRow) 14 Try.f14 rfl rfl rfl rfl rfl rfl rfl ⟨rfl, rfl, rfl, rfl, rfl⟩ rfl rfl rfl rfl rfl named_FnExactPaceOf Try.func14
    (joined_of seatFacts facts_FnExactPaceOf ⟨rfl, rfl, rfl, rfl, rfl, rfl, rfl, rfl⟩) inst_FnExactPaceOf wrap_FnExactPaceOf (fun os started H enc _ => lifted_FnExactPaceOf os started H enc)
end Go.Proofs.Ytenfgllkjgfjpaa
