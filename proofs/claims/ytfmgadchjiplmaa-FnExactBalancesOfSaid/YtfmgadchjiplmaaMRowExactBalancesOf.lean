/- The row of FnExactBalancesOf. -/
import Derived.Test.YtfmgadchjiplmaaMHead
import Derived.Test.YtfmgadchjiplmaaMT9
import Derived.Test.YtfmgadchjiplmaaMFit
set_option linter.all false
namespace Go.Proofs.Ytfmgadchjiplmaa
open Go.ChangeShapes Go.WideShapes Go.RowKit

theorem isLaw_FnExactBalancesOf : IsLaw Rows.fnExactBalancesOfSpec Try.f7.params.size := by
  refine ⟨rfl, fun H ds h => ?_⟩
  match ds, h with
  | [d0], _ => rfl

theorem lawFacts_FnExactBalancesOf : LawFacts Try.prog Try.f7 (Try.f7.resultTypes.getD 0 0) [(false, [.sl [.i, .i, .i, .i, .i]])] :=
  ⟨fact_laid, by kernel_rfl, by kernel_rfl, by kernel_rfl, by kernel_rfl⟩

set_option maxRecDepth 100000 in
theorem lifted_FnExactBalancesOf (os : Os) (started : os.Started) (H : Type) (enc : TypeId × Value → H) :
    ReturnsInHanded {} Try.checked os 7 .any (Rows.fnExactBalancesOfSpec.pre6 enc Try.prog Try.f7 Rows.fnExactBalancesOfRow.domain false) (Rows.fnExactBalancesOfSpec.post enc Try.prog Try.f7 false true false false) := by
  refine law_lifted (C := Try.checked) fact_own started (by kernel_rfl) Try.func7
    (ChangeSpec.witness6 (enc := enc) (C := Try.checked) false ⟨#[], #[.slice none 0 0], []⟩ 8 (by kernel_rfl) (by kernel_rfl) (by kernel_rfl) (by kernel_rfl)) isLaw_FnExactBalancesOf lawFacts_FnExactBalancesOf ?_
  rintro avs ⟨a, avs0, rfl, ha, rfl⟩
  cases ha with
  | one h0 =>
    obtain ⟨x0, rfl⟩ := h0.sl_inv Entry.enc fun xs h => Entry_fit h
    exact FnExactBalancesOf_c x0
theorem facts_FnExactBalancesOf : rowFacts Try.prog 7 Try.f7 Rows.fnExactBalancesOfSpec Rows.fnExactBalancesOfRow = true := by kernel_rfl
theorem named_FnExactBalancesOf : Try.pinned.checked.prog.funcNamed Rows.fnExactBalancesOfRow.func = some 7 := by kernel_rfl
theorem inst_FnExactBalancesOf : Try.f7.isInstance Try.pinned.checked.prog Rows.fnExactBalancesOfRow.origin Rows.fnExactBalancesOfRow.targs := (of_decide_eq_true (by kernel_rfl))
theorem wrap_FnExactBalancesOf : Try.f7.isWrapper Try.pinned.checked.prog Rows.fnExactBalancesOfRow.wrapper Rows.fnExactBalancesOfRow.mainSum := by
  unfold Func.isWrapper; first | (rw [if_pos (by decide +kernel)]; kernel_rfl) | (rw [if_neg (by decide +kernel)]; exact ⟨rfl, rfl⟩)
theorem FnExactBalancesOf_holds : Rows.FnExactBalancesOfSaid :=
  OpenClaim.holds_of_wide (p := Try.pinned) (s := Rows.fnExactBalancesOfSpec) (c := Rows.fnExactBalancesOfRow) 7 Try.f7 rfl rfl rfl rfl rfl rfl rfl ⟨rfl, rfl, rfl, rfl, rfl⟩ rfl rfl rfl rfl rfl named_FnExactBalancesOf Try.func7
    (joined_of seatFacts facts_FnExactBalancesOf ⟨rfl, rfl, rfl, rfl, rfl, rfl, rfl, rfl⟩) inst_FnExactBalancesOf wrap_FnExactBalancesOf (fun os started H enc _ => lifted_FnExactBalancesOf os started H enc)
end Go.Proofs.Ytfmgadchjiplmaa
