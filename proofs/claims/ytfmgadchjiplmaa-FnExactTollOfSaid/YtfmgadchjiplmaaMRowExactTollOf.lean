/- The row of FnExactTollOf. -/
import Derived.Test.YtfmgadchjiplmaaMHead
import Derived.Test.YtfmgadchjiplmaaMT5
import Derived.Test.YtfmgadchjiplmaaMFit
set_option linter.all false
namespace Go.Proofs.Ytfmgadchjiplmaa
open Go.ChangeShapes Go.WideShapes Go.RowKit

theorem isLaw_FnExactTollOf : IsLaw Rows.fnExactTollOfSpec Try.f16.params.size := by
  refine ⟨rfl, fun H ds h => ?_⟩
  match ds, h with
  | [d0, d1], _ => rfl

theorem lawFacts_FnExactTollOf : LawFacts Try.prog Try.f16 (Try.f16.resultTypes.getD 0 0) [(true, [.i, .i, .sl [.i], .sl [.i]]), (true, [.b, .sl [.sl [.i, .i, .i, .i, .i, .i]]])] :=
  ⟨fact_laid, by kernel_rfl, by kernel_rfl, by kernel_rfl, by kernel_rfl⟩

set_option maxRecDepth 100000 in
theorem lifted_FnExactTollOf (os : Os) (started : os.Started) (H : Type) (enc : TypeId × Value → H) :
    ReturnsInHanded {} Try.checked os 16 .any (Rows.fnExactTollOfSpec.pre6 enc Try.prog Try.f16 Rows.fnExactTollOfRow.domain false) (Rows.fnExactTollOfSpec.post enc Try.prog Try.f16 false true false false) := by
  refine law_lifted (C := Try.checked) fact_own started (by kernel_rfl) Try.func16
    (ChangeSpec.witness6 (enc := enc) (C := Try.checked) false ⟨#[], #[.agg #[.int .i64 0, .int .i64 0, .slice none 0 0, .slice none 0 0], .agg #[.bool false, .slice none 0 0]], []⟩ 8 (by kernel_rfl) (by kernel_rfl) (by kernel_rfl) (by kernel_rfl)) isLaw_FnExactTollOf lawFacts_FnExactTollOf ?_
  rintro avs ⟨a, avs0, rfl, ha, b, avs1, rfl, hb, rfl⟩
  cases ha with
  | st h0 =>
    cases hb with
    | st h1 =>
      obtain ⟨x0, rfl⟩ := Tariff_fit h0
      obtain ⟨x1, rfl⟩ := Train_fit h1
      exact FnExactTollOf_c x0 x1
theorem facts_FnExactTollOf : rowFacts Try.prog 16 Try.f16 Rows.fnExactTollOfSpec Rows.fnExactTollOfRow = true := by kernel_rfl
theorem named_FnExactTollOf : Try.pinned.checked.prog.funcNamed Rows.fnExactTollOfRow.func = some 16 := by kernel_rfl
theorem inst_FnExactTollOf : Try.f16.isInstance Try.pinned.checked.prog Rows.fnExactTollOfRow.origin Rows.fnExactTollOfRow.targs := (of_decide_eq_true (by kernel_rfl))
theorem wrap_FnExactTollOf : Try.f16.isWrapper Try.pinned.checked.prog Rows.fnExactTollOfRow.wrapper Rows.fnExactTollOfRow.mainSum := by
  unfold Func.isWrapper; first | (rw [if_pos (by decide +kernel)]; kernel_rfl) | (rw [if_neg (by decide +kernel)]; exact ⟨rfl, rfl⟩)
theorem FnExactTollOf_holds : Rows.FnExactTollOfSaid :=
  OpenClaim.holds_of_wide (p := Try.pinned) (s := Rows.fnExactTollOfSpec) (c := Rows.fnExactTollOfRow) 16 Try.f16 rfl rfl rfl rfl rfl rfl rfl ⟨rfl, rfl, rfl, rfl, rfl⟩ rfl rfl rfl rfl rfl named_FnExactTollOf Try.func16
    (joined_of seatFacts facts_FnExactTollOf ⟨rfl, rfl, rfl, rfl, rfl, rfl, rfl, rfl⟩) inst_FnExactTollOf wrap_FnExactTollOf (fun os started H enc _ => lifted_FnExactTollOf os started H enc)
end Go.Proofs.Ytfmgadchjiplmaa
