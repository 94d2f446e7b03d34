/- The row of FnExactWayOk. -/
import Derived.Test.YtenfgllkjgfjpaaHead
import Derived.Test.YtenfgllkjgfjpaaT2
set_option linter.all false
namespace Go.Proofs.Ytenfgllkjgfjpaa
open Go.ChangeShapes Go.WideShapes Go.RowKit

theorem isLaw_FnExactWayOk : IsLaw Rows.fnExactWayOkSpec Try.f3.params.size := by
  refine ⟨rfl, fun H ds h => ?_⟩
  match ds, h with
  | [d0], _ => rfl

theorem lawFacts_FnExactWayOk : LawFacts Try.prog Try.f3 (Try.f3.resultTypes.getD 0 0) [(true, [.i, .i])] :=
  ⟨fact_laid, by kernel_rfl, by kernel_rfl, by kernel_rfl, by kernel_rfl⟩

set_option maxRecDepth 100000 in
theorem lifted_FnExactWayOk (os : Os) (started : os.Started) (H : Type) (enc : TypeId × Value → H) :
    ReturnsInHanded {} Try.checked os 3 .any (Rows.fnExactWayOkSpec.pre6 enc Try.prog Try.f3 Rows.fnExactWayOkRow.domain false) (Rows.fnExactWayOkSpec.post enc Try.prog Try.f3 false true false false) := by
  refine law_lifted (C := Try.checked) fact_own started (by kernel_rfl) Try.func3
    (ChangeSpec.witness6 (enc := enc) (C := Try.checked) false ⟨#[], #[.agg #[.int .i64 0, .int .i64 0]], []⟩ 8 (by kernel_rfl) (by kernel_rfl) (by kernel_rfl) (by kernel_rfl)) isLaw_FnExactWayOk lawFacts_FnExactWayOk ?_
  rintro avs ⟨a, avs0, rfl, ha, rfl⟩
  cases ha with
  | st h =>
    obtain ⟨xc0, xys0, rfl, xh0, h⟩ := h.cons_inv
    obtain ⟨xc1, xys1, rfl, xh1, h⟩ := h.cons_inv
    obtain rfl := h.nil_inv
    obtain ⟨xn0, rfl⟩ := xh0.i_inv
    obtain ⟨xn1, rfl⟩ := xh1.i_inv
    exact FnExactWayOk_c ⟨xn0, xn1⟩
theorem facts_FnExactWayOk : rowFacts Try.prog 3 Try.f3 Rows.fnExactWayOkSpec Rows.fnExactWayOkRow = true := by kernel_rfl
theorem named_FnExactWayOk : Try.pinned.checked.prog.funcNamed Rows.fnExactWayOkRow.func = some 3 := by kernel_rfl
theorem inst_FnExactWayOk : Try.f3.isInstance Try.pinned.checked.prog Rows.fnExactWayOkRow.origin Rows.fnExactWayOkRow.targs := (of_decide_eq_true (by kernel_rfl))
theorem wrap_FnExactWayOk : Try.f3.isWrapper Try.pinned.checked.prog Rows.fnExactWayOkRow.wrapper Rows.fnExactWayOkRow.mainSum := by
  unfold Func.isWrapper; first | (rw [if_pos (by decide +kernel)]; kernel_rfl) | (rw [if_neg (by decide +kernel)]; exact ⟨rfl, rfl⟩)
theorem FnExactWayOk_holds : Rows.FnExactWayOkSaid :=
  OpenClaim.holds_of_wide (p := Try.pinned) (s := Rows.fnExactWayOkSpec) (c := Rows.fnExactWayOkRow) 3 Try.f3 rfl rfl rfl rfl rfl rfl rfl ⟨rfl, rfl, rfl, rfl, rfl⟩ rfl rfl rfl rfl rfl named_FnExactWayOk Try.func3
    (joined_of seatFacts facts_FnExactWayOk ⟨rfl, rfl, rfl, rfl, rfl, rfl, rfl, rfl⟩) inst_FnExactWayOk wrap_FnExactWayOk (fun os started H enc _ => lifted_FnExactWayOk os started H enc)
end Go.Proofs.Ytenfgllkjgfjpaa
