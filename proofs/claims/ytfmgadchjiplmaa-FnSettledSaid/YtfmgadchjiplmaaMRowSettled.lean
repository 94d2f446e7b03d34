/- The row of FnSettled. -/
import Derived.Test.YtfmgadchjiplmaaMHead
import Derived.Test.YtfmgadchjiplmaaMT25
import Derived.Test.YtfmgadchjiplmaaMFit4
set_option linter.all false
namespace Go.Proofs.Ytfmgadchjiplmaa
open Go.ChangeShapes Go.WideShapes Go.RowKit

theorem isLaw_FnSettled : IsLaw Rows.fnSettledSpec Try.f9.params.size := by
  refine ⟨rfl, fun H ds h => ?_⟩
  match ds, h with
  | [d0], _ => rfl

theorem lawFacts_FnSettled : LawFacts Try.prog Try.f9 (Try.f9.resultTypes.getD 0 0) [(false, [.sl [.u]])] :=
  ⟨fact_laid, by kernel_rfl, by kernel_rfl, by kernel_rfl, by kernel_rfl⟩

set_option maxRecDepth 100000 in
theorem lifted_FnSettled (os : Os) (started : os.Started) (H : Type) (enc : TypeId × Value → H) :
    ReturnsInHanded {} Try.checked os 9 .any (Rows.fnSettledSpec.pre6 enc Try.prog Try.f9 Rows.fnSettledRow.domain false) (Rows.fnSettledSpec.post enc Try.prog Try.f9 false true false false) := by
  refine law_lifted (C := Try.checked) fact_own started (by kernel_rfl) Try.func9
    (ChangeSpec.witness6 (enc := enc) (C := Try.checked) false ⟨#[], #[.slice none 0 0], []⟩ 8 (by kernel_rfl) (by kernel_rfl) (by kernel_rfl) (by kernel_rfl)) isLaw_FnSettled lawFacts_FnSettled ?_
  rintro avs ⟨a, avs0, rfl, ha, rfl⟩
  cases ha with
  | one h0 =>
    obtain ⟨x0, rfl⟩ := h0.sl_inv nenc fun xs h => nenc_fit h
    exact FnSettled_c x0
theorem facts_FnSettled : rowFacts Try.prog 9 Try.f9 Rows.fnSettledSpec Rows.fnSettledRow = true := by kernel_rfl
theorem named_FnSettled : Try.pinned.checked.prog.funcNamed Rows.fnSettledRow.func = some 9 := by kernel_rfl
theorem inst_FnSettled : Try.f9.isInstance Try.pinned.checked.prog Rows.fnSettledRow.origin Rows.fnSettledRow.targs := (of_decide_eq_true (by kernel_rfl))
theorem wrap_FnSettled : Try.f9.isWrapper Try.pinned.checked.prog Rows.fnSettledRow.wrapper Rows.fnSettledRow.mainSum := by
  unfold Func.isWrapper; first | (rw [if_pos (by decide +kernel)]; kernel_rfl) | (rw [if_neg (by decide +kernel)]; exact ⟨rfl, rfl⟩)
theorem FnSettled_holds : Rows.FnSettledSaid :=
  OpenClaim.holds_of_wide (p := Try.pinned) (s := Rows.fnSettledSpec) (c := Rows.fnSettledRow) 9 Try.f9 rfl rfl rfl rfl rfl rfl rfl ⟨rfl, rfl, rfl, rfl, rfl⟩ rfl rfl rfl rfl rfl named_FnSettled Try.func9
    (joined_of seatFacts facts_FnSettled ⟨rfl, rfl, rfl, rfl, rfl, rfl, rfl, rfl⟩) inst_FnSettled wrap_FnSettled (fun os started H enc _ => lifted_FnSettled os started H enc)
end Go.Proofs.Ytfmgadchjiplmaa
