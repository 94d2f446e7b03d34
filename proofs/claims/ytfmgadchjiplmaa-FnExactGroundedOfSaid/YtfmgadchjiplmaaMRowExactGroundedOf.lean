/- The row of FnExactGroundedOf. -/
import Derived.Test.YtfmgadchjiplmaaMHead
import Derived.Test.YtfmgadchjiplmaaMT17
import Derived.Test.YtfmgadchjiplmaaMFit
set_option linter.all false
namespace Go.Proofs.Ytfmgadchjiplmaa
open Go.ChangeShapes Go.WideShapes Go.RowKit

theorem isLaw_FnExactGroundedOf : IsLaw Rows.fnExactGroundedOfSpec Try.f23.params.size := by
  refine ⟨rfl, fun H ds h => ?_⟩
  match ds, h with
  | [d0, d1, d2], _ => rfl

theorem lawFacts_FnExactGroundedOf : LawFacts Try.prog Try.f23 (Try.f23.resultTypes.getD 0 0) [(false, [.sl [.b, .sl [.sl [.i, .i, .i, .i, .i, .i]], .i]]), (true, [.i, .i]), (true, [.sl [.i, .i], .i, .sl [.i]])] :=
  ⟨fact_laid, by kernel_rfl, by kernel_rfl, by kernel_rfl, by kernel_rfl⟩

set_option maxRecDepth 100000 in
theorem lifted_FnExactGroundedOf (os : Os) (started : os.Started) (H : Type) (enc : TypeId × Value → H) :
    ReturnsInHanded {} Try.checked os 23 .any (Rows.fnExactGroundedOfSpec.pre6 enc Try.prog Try.f23 Rows.fnExactGroundedOfRow.domain false) (Rows.fnExactGroundedOfSpec.post enc Try.prog Try.f23 false true false false) := by
  refine law_lifted (C := Try.checked) fact_own started (by kernel_rfl) Try.func23
    (ChangeSpec.witness6 (enc := enc) (C := Try.checked) false ⟨#[], #[.slice none 0 0, .agg #[.int .i64 0, .int .i64 0], .agg #[.slice none 0 0, .int .i64 0, .slice none 0 0]], []⟩ 8 (by kernel_rfl) (by kernel_rfl) (by kernel_rfl) (by kernel_rfl)) isLaw_FnExactGroundedOf lawFacts_FnExactGroundedOf ?_
  rintro avs ⟨a, avs0, rfl, ha, b, avs1, rfl, hb, c, avs2, rfl, hc, rfl⟩
  cases ha with
  | one h0 =>
    cases hb with
    | st h1 =>
      cases hc with
      | st h2 =>
        obtain ⟨x0, rfl⟩ := h0.sl_inv Mover.enc fun xs h => Mover_fit h
        obtain ⟨x1, rfl⟩ := Way_fit h1
        obtain ⟨x2, rfl⟩ := Reach_fit h2
        exact FnExactGroundedOf_c x0 x1 x2
theorem facts_FnExactGroundedOf : rowFacts Try.prog 23 Try.f23 Rows.fnExactGroundedOfSpec Rows.fnExactGroundedOfRow = true := by kernel_rfl
theorem named_FnExactGroundedOf : Try.pinned.checked.prog.funcNamed Rows.fnExactGroundedOfRow.func = some 23 := by kernel_rfl
theorem inst_FnExactGroundedOf : Try.f23.isInstance Try.pinned.checked.prog Rows.fnExactGroundedOfRow.origin Rows.fnExactGroundedOfRow.targs := (of_decide_eq_true (by kernel_rfl))
theorem wrap_FnExactGroundedOf : Try.f23.isWrapper Try.pinned.checked.prog Rows.fnExactGroundedOfRow.wrapper Rows.fnExactGroundedOfRow.mainSum := by
  unfold Func.isWrapper; first | (rw [if_pos (by decide +kernel)]; kernel_rfl) | (rw [if_neg (by decide +kernel)]; exact ⟨rfl, rfl⟩)
theorem FnExactGroundedOf_holds : Rows.FnExactGroundedOfSaid :=
  OpenClaim.holds_of_wide (p := Try.pinned) (s := Rows.fnExactGroundedOfSpec) (c := Rows.fnExactGroundedOfRow) 23 Try.f23 rfl rfl rfl rfl rfl rfl rfl ⟨rfl, rfl, rfl, rfl, rfl⟩ rfl rfl rfl rfl rfl named_FnExactGroundedOf Try.func23
    (joined_of seatFacts facts_FnExactGroundedOf ⟨rfl, rfl, rfl, rfl, rfl, rfl, rfl, rfl⟩) inst_FnExactGroundedOf wrap_FnExactGroundedOf (fun os started H enc _ => lifted_FnExactGroundedOf os started H enc)
end Go.Proofs.Ytfmgadchjiplmaa
