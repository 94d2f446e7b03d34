/- The row of FnExactEntryOk. -/
import Derived.Test.YtenfgllkjgfjpaaHead
import Derived.Test.YtenfgllkjgfjpaaT2
set_option linter.all false
namespace Go.Proofs.Ytenfgllkjgfjpaa
open Go.ChangeShapes Go.WideShapes Go.RowKit

theorem isLaw_FnExactEntryOk : IsLaw Rows.fnExactEntryOkSpec Try.f4.params.size := by
  refine ⟨rfl, fun H ds h => ?_⟩
  match ds, h with
  | [d0], _ => rfl

theorem lawFacts_FnExactEntryOk : LawFacts Try.prog Try.f4 (Try.f4.resultTypes.getD 0 0) [(true, [.i, .i, .i, .i, .i])] :=
  ⟨fact_laid, by kernel_rfl, by kernel_rfl, by kernel_rfl, by kernel_rfl⟩

set_option maxRecDepth 100000 in
theorem lifted_FnExactEntryOk (os : Os) (started : os.Started) (H : Type) (enc : TypeId × Value → H) :
    ReturnsInHanded {} Try.checked os 4 .any (Rows.fnExactEntryOkSpec.pre6 enc Try.prog Try.f4 Rows.fnExactEntryOkRow.domain false) (Rows.fnExactEntryOkSpec.post enc Try.prog Try.f4 false true false false) := by
  refine law_lifted (C := Try.checked) fact_own started (by kernel_rfl) Try.func4
    (ChangeSpec.witness6 (enc := enc) (C := Try.checked) false ⟨#[], #[.agg #[.int .i64 0, .int .i64 0, .int .i64 0, .int .i64 0, .int .i64 0]], []⟩ 8 (by kernel_rfl) (by kernel_rfl) (by kernel_rfl) (by kernel_rfl)) isLaw_FnExactEntryOk lawFacts_FnExactEntryOk ?_
  rintro avs ⟨a, avs0, rfl, ha, rfl⟩
  cases ha with
  | st h =>
    obtain ⟨xc0, xys0, rfl, xh0, h⟩ := h.cons_inv
    obtain ⟨xc1, xys1, rfl, xh1, h⟩ := h.cons_inv
    obtain ⟨xc2, xys2, rfl, xh2, h⟩ := h.cons_inv
    obtain ⟨xc3, xys3, rfl, xh3, h⟩ := h.cons_inv
    obtain ⟨xc4, xys4, rfl, xh4, h⟩ := h.cons_inv
    obtain rfl := h.nil_inv
    obtain ⟨xn0, rfl⟩ := xh0.i_inv
    obtain ⟨xn1, rfl⟩ := xh1.i_inv
    obtain ⟨xn2, rfl⟩ := xh2.i_inv
    obtain ⟨xn3, rfl⟩ := xh3.i_inv
    obtain ⟨xn4, rfl⟩ := xh4.i_inv
    exact FnExactEntryOk_c ⟨xn0, xn1, xn2, xn3, xn4⟩
theorem facts_FnExactEntryOk : rowFacts Try.prog 4 Try.f4 Rows.fnExactEntryOkSpec Rows.fnExactEntryOkRow = true := by kernel_rfl
theorem named_FnExactEntryOk : Try.pinned.checked.prog.funcNamed Rows.fnExactEntryOkRow.func = some 4 := by kernel_rfl
theorem inst_FnExactEntryOk : Try.f4.isInstance Try.pinned.checked.prog Rows.fnExactEntryOkRow.origin Rows.fnExactEntryOkRow.targs := (of_decide_eq_true (by kernel_rfl))
theorem wrap_FnExactEntryOk : Try.f4.isWrapper Try.pinned.checked.prog Rows.fnExactEntryOkRow.wrapper Rows.fnExactEntryOkRow.mainSum := by
  unfold Func.isWrapper; first | (rw [if_pos (by decide +kernel)]; kernel_rfl) | (rw [if_neg (by decide +kernel)]; exact ⟨rfl, rfl⟩)
theorem FnExactEntryOk_holds : Rows.FnExactEntryOkSaid :=
  OpenClaim.holds_of_wide (p := Try.pinned) (s := Rows.fnExactEntryOkSpec) (c := Rows.fnExactEntryOkRow) 4 Try.f4 rfl rfl rfl rfl rfl rfl rfl ⟨rfl, rfl, rfl, rfl, rfl⟩ rfl rfl rfl rfl rfl named_FnExactEntryOk Try.func4
    (joined_of seatFacts facts_FnExactEntryOk ⟨rfl, rfl, rfl, rfl, rfl, rfl, rfl, rfl⟩) inst_FnExactEntryOk wrap_FnExactEntryOk (fun os started H enc _ => lifted_FnExactEntryOk os started H enc)
end Go.Proofs.Ytenfgllkjgfjpaa
