/- The row of FnExactSettleUp. -/
import Derived.Test.YtfmgadchjiplmaaMHead
import Derived.Test.YtfmgadchjiplmaaMT11
import Derived.Test.YtfmgadchjiplmaaMFit
set_option linter.all false
namespace Go.Proofs.Ytfmgadchjiplmaa
open Go.ChangeShapes Go.WideShapes Go.RowKit

theorem isLaw_FnExactSettleUp : IsLaw Rows.fnExactSettleUpSpec Try.f11.params.size := by
  refine ⟨rfl, fun H ds h => ?_⟩
  match ds, h with
  | [d0, d1], _ => rfl

theorem lawFacts_FnExactSettleUp : LawFacts Try.prog Try.f11 (Try.f11.resultTypes.getD 0 0) [(false, [.sl [.i]]), (false, [.i])] :=
  ⟨fact_laid, by kernel_rfl, by kernel_rfl, by kernel_rfl, by kernel_rfl⟩

set_option maxRecDepth 100000 in
theorem lifted_FnExactSettleUp (os : Os) (started : os.Started) (H : Type) (enc : TypeId × Value → H) :
    ReturnsInHanded {} Try.checked os 11 .any (Rows.fnExactSettleUpSpec.pre6 enc Try.prog Try.f11 Rows.fnExactSettleUpRow.domain false) (Rows.fnExactSettleUpSpec.post enc Try.prog Try.f11 false true false false) := by
  refine law_lifted (C := Try.checked) fact_own started (by kernel_rfl) Try.func11
    (ChangeSpec.witness6 (enc := enc) (C := Try.checked) false ⟨#[], #[.slice none 0 0, .int .i64 0], []⟩ 8 (by kernel_rfl) (by kernel_rfl) (by kernel_rfl) (by kernel_rfl)) isLaw_FnExactSettleUp lawFacts_FnExactSettleUp ?_
  rintro avs ⟨a, avs0, rfl, ha, b, avs1, rfl, hb, rfl⟩
  cases ha with
  | one h0 =>
    cases hb with
    | one h1 =>
      obtain ⟨x0, rfl⟩ := h0.sl_inv ienc fun xs h => ienc_fit h
      obtain ⟨x1, rfl⟩ := h1.i_inv
      exact FnExactSettleUp_c x0 x1
theorem facts_FnExactSettleUp : rowFacts Try.prog 11 Try.f11 Rows.fnExactSettleUpSpec Rows.fnExactSettleUpRow = true := by kernel_rfl
theorem named_FnExactSettleUp : Try.pinned.checked.prog.funcNamed Rows.fnExactSettleUpRow.func = some 11 := by kernel_rfl
theorem inst_FnExactSettleUp : Try.f11.isInstance Try.pinned.checked.prog Rows.fnExactSettleUpRow.origin Rows.fnExactSettleUpRow.targs := (of_decide_eq_true (by kernel_rfl))
theorem wrap_FnExactSettleUp : Try.f11.isWrapper Try.pinned.checked.prog Rows.fnExactSettleUpRow.wrapper Rows.fnExactSettleUpRow.mainSum := by
  unfold Func.isWrapper; first | (rw [if_pos (by decide +kernel)]; kernel_rfl) | (rw [if_neg (by decide +kernel)]; exact ⟨rfl, rfl⟩)
theorem FnExactSettleUp_holds : Rows.FnExactSettleUpSaid :=
  OpenClaim.holds_of_wide (p := Try.pinned) (s := Rows.fnExactSettleUpSpec) (c := Rows.fnExactSettleUpRow) 11 Try.f11 rfl rfl rfl rfl rfl rfl rfl ⟨rfl, rfl, rfl, rfl, rfl⟩ rfl rfl rfl rfl rfl named_FnExactSettleUp Try.func11
    (joined_of seatFacts facts_FnExactSettleUp ⟨rfl, rfl, rfl, rfl, rfl, rfl, rfl, rfl⟩) inst_FnExactSettleUp wrap_FnExactSettleUp (fun os started H enc _ => lifted_FnExactSettleUp os started H enc)
end Go.Proofs.Ytfmgadchjiplmaa
