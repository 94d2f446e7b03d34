/- The row of FnExactTariffOk. -/
import Derived.Test.YtenfgllkjgfjpaaHead
import Derived.Test.YtenfgllkjgfjpaaT5
import Derived.Test.YtenfgllkjgfjpaaFit
set_option linter.all false
namespace Go.Proofs.Ytenfgllkjgfjpaa
open Go.ChangeShapes Go.WideShapes Go.RowKit

theorem isLaw_FnExactTariffOk : IsLaw Rows.fnExactTariffOkSpec Try.f6.params.size := by
  refine ⟨rfl, fun H ds h => ?_⟩
  match ds, h with
  | [d0], _ => rfl

theorem lawFacts_FnExactTariffOk : LawFacts Try.prog Try.f6 (Try.f6.resultTypes.getD 0 0) [(true, [.i, .i, .sl [.i], .sl [.i]])] :=
  ⟨fact_laid, by kernel_rfl, by kernel_rfl, by kernel_rfl, by kernel_rfl⟩

set_option maxRecDepth 100000 in
theorem lifted_FnExactTariffOk (os : Os) (started : os.Started) (H : Type) (enc : TypeId × Value → H) :
    ReturnsInHanded {} Try.checked os 6 .any (Rows.fnExactTariffOkSpec.pre6 enc Try.prog Try.f6 Rows.fnExactTariffOkRow.domain false) (Rows.fnExactTariffOkSpec.post enc Try.prog Try.f6 false true false false) := by
  refine law_lifted (C := Try.checked) fact_own started (by kernel_rfl) Try.func6
    (ChangeSpec.witness6 (enc := enc) (C := Try.checked) false ⟨#[], #[.agg #[.int .i64 0, .int .i64 0, .slice none 0 0, .slice none 0 0]], []⟩ 8 (by kernel_rfl) (by kernel_rfl) (by kernel_rfl) (by kernel_rfl)) isLaw_FnExactTariffOk lawFacts_FnExactTariffOk ?_
  rintro avs ⟨a, avs0, rfl, ha, rfl⟩
  cases ha with
  | st h =>
    obtain ⟨x, rfl⟩ := Tariff_fit h
    exact FnExactTariffOk_c x
theorem facts_FnExactTariffOk : rowFacts Try.prog 6 Try.f6 Rows.fnExactTariffOkSpec Rows.fnExactTariffOkRow = true := by kernel_rfl
theorem named_FnExactTariffOk : Try.pinned.checked.prog.funcNamed Rows.fnExactTariffOkRow.func = some 6 := by kernel_rfl
theorem inst_FnExactTariffOk : Try.f6.isInstance Try.pinned.checked.prog Rows.fnExactTariffOkRow.origin Rows.fnExactTariffOkRow.targs := (of_decide_eq_true (by kernel_rfl))
theorem wrap_FnExactTariffOk : Try.f6.isWrapper Try.pinned.checked.prog Rows.fnExactTariffOkRow.wrapper Rows.fnExactTariffOkRow.mainSum := by
  unfold Func.isWrapper; first | (rw [if_pos (by decide +kernel)]; kernel_rfl) | (rw [if_neg (by decide +kernel)]; exact ⟨rfl, rfl⟩)
theorem FnExactTariffOk_holds : Rows.FnExactTariffOkSaid :=
  OpenClaim.holds_of_wide (p := Try.pinned) (s := Rows.fnExactTariffOkSpec) (c := Rows.fnExactTariffOkRow) 6 Try.f6 rfl rfl rfl rfl rfl rfl rfl ⟨rfl, rfl, rfl, rfl, rfl⟩ rfl rfl rfl rfl rfl named_FnExactTariffOk Try.func6
    (joined_of seatFacts facts_FnExactTariffOk ⟨rfl, rfl, rfl, rfl, rfl, rfl, rfl, rfl⟩) inst_FnExactTariffOk wrap_FnExactTariffOk (fun os started H enc _ => lifted_FnExactTariffOk os started H enc)
end Go.Proofs.Ytenfgllkjgfjpaa
