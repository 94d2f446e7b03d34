/- The row of FnExactBookOk. -/
import Derived.Test.YtenfgllkjgfjpaaHead
import Derived.Test.YtenfgllkjgfjpaaT3
import Derived.Test.YtenfgllkjgfjpaaFit
set_option linter.all false
namespace Go.Proofs.Ytenfgllkjgfjpaa
open Go.ChangeShapes Go.WideShapes Go.RowKit

theorem isLaw_FnExactBookOk : IsLaw Rows.fnExactBookOkSpec Try.f5.params.size := by
  refine ⟨rfl, fun H ds h => ?_⟩
  match ds, h with
  | [d0], _ => rfl

theorem lawFacts_FnExactBookOk : LawFacts Try.prog Try.f5 (Try.f5.resultTypes.getD 0 0) [(false, [.sl [.i, .i, .i, .i, .i]])] :=
  ⟨fact_laid, by kernel_rfl, by kernel_rfl, by kernel_rfl, by kernel_rfl⟩

set_option maxRecDepth 100000 in
theorem lifted_FnExactBookOk (os : Os) (started : os.Started) (H : Type) (enc : TypeId × Value → H) :
    ReturnsInHanded {} Try.checked os 5 .any (Rows.fnExactBookOkSpec.pre6 enc Try.prog Try.f5 Rows.fnExactBookOkRow.domain false) (Rows.fnExactBookOkSpec.post enc Try.prog Try.f5 false true false false) := by
  refine law_lifted (C := Try.checked) fact_own started (by kernel_rfl) Try.func5
    (ChangeSpec.witness6 (enc := enc) (C := Try.checked) false ⟨#[], #[.slice none 0 0], []⟩ 8 (by kernel_rfl) (by kernel_rfl) (by kernel_rfl) (by kernel_rfl)) isLaw_FnExactBookOk lawFacts_FnExactBookOk ?_
  rintro avs ⟨a, avs0, rfl, ha, rfl⟩
  cases ha with
  | one h =>
    obtain ⟨es, rfl⟩ := h.sl_inv Entry.enc fun xs h => Entry_fit h
    exact FnExactBookOk_c es
theorem facts_FnExactBookOk : rowFacts Try.prog 5 Try.f5 Rows.fnExactBookOkSpec Rows.fnExactBookOkRow = true := by kernel_rfl
theorem named_FnExactBookOk : Try.pinned.checked.prog.funcNamed Rows.fnExactBookOkRow.func = some 5 := by kernel_rfl
theorem inst_FnExactBookOk : Try.f5.isInstance Try.pinned.checked.prog Rows.fnExactBookOkRow.origin Rows.fnExactBookOkRow.targs := (of_decide_eq_true (by kernel_rfl))
theorem wrap_FnExactBookOk : Try.f5.isWrapper Try.pinned.checked.prog Rows.fnExactBookOkRow.wrapper Rows.fnExactBookOkRow.mainSum := by
  unfold Func.isWrapper; first | (rw [if_pos (by decide +kernel)]; kernel_rfl) | (rw [if_neg (by decide +kernel)]; exact ⟨rfl, rfl⟩)
theorem FnExactBookOk_holds : Rows.FnExactBookOkSaid :=
  OpenClaim.holds_of_wide (p := Try.pinned) (s := Rows.fnExactBookOkSpec) (c := Rows.fnExactBookOkRow) 5 Try.f5 rfl rfl rfl rfl rfl rfl rfl ⟨rfl, rfl, rfl, rfl, rfl⟩ rfl rfl rfl rfl rfl named_FnExactBookOk Try.func5
    (joined_of seatFacts facts_FnExactBookOk ⟨rfl, rfl, rfl, rfl, rfl, rfl, rfl, rfl⟩) inst_FnExactBookOk wrap_FnExactBookOk (fun os started H enc _ => lifted_FnExactBookOk os started H enc)
end Go.Proofs.Ytenfgllkjgfjpaa
