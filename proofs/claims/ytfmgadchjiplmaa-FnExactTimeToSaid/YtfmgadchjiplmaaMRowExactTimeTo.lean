/- The row of FnExactTimeTo. -/
import Derived.Test.YtfmgadchjiplmaaMHead
import Derived.Test.YtfmgadchjiplmaaMT6
import Derived.Test.YtfmgadchjiplmaaMFit
set_option linter.all false
namespace Go.Proofs.Ytfmgadchjiplmaa
open Go.ChangeShapes Go.WideShapes Go.RowKit

theorem isLaw_FnExactTimeTo : IsLaw Rows.fnExactTimeToSpec Try.f20.params.size := by
  refine ⟨rfl, fun H ds h => ?_⟩
  match ds, h with
  | [d0, d1, d2], _ => rfl

theorem lawFacts_FnExactTimeTo : LawFacts Try.prog Try.f20 (Try.f20.resultTypes.getD 0 0) [(true, [.b, .sl [.sl [.i, .i, .i, .i, .i, .i]], .i]), (true, [.i, .i]), (true, [.sl [.i, .i], .i, .sl [.i]])] :=
  ⟨fact_laid, by kernel_rfl, by kernel_rfl, by kernel_rfl, by kernel_rfl⟩

set_option maxRecDepth 100000 in
theorem lifted_FnExactTimeTo (os : Os) (started : os.Started) (H : Type) (enc : TypeId × Value → H) :
    ReturnsInHanded {} Try.checked os 20 .any (Rows.fnExactTimeToSpec.pre6 enc Try.prog Try.f20 Rows.fnExactTimeToRow.domain false) (Rows.fnExactTimeToSpec.post enc Try.prog Try.f20 false true false false) := by
  refine law_lifted (C := Try.checked) fact_own started (by kernel_rfl) Try.func20
    (ChangeSpec.witness6 (enc := enc) (C := Try.checked) false ⟨#[], #[.agg #[.bool false, .slice none 0 0, .int .i64 0], .agg #[.int .i64 0, .int .i64 0], .agg #[.slice none 0 0, .int .i64 0, .slice none 0 0]], []⟩ 8 (by kernel_rfl) (by kernel_rfl) (by kernel_rfl) (by kernel_rfl)) isLaw_FnExactTimeTo lawFacts_FnExactTimeTo ?_
  rintro avs ⟨a, avs0, rfl, ha, b, avs1, rfl, hb, c, avs2, rfl, hc, rfl⟩
  cases ha with
  | st h0 =>
    cases hb with
    | st h1 =>
      cases hc with
      | st h2 =>
        obtain ⟨x0, rfl⟩ := Mover_fit h0
        obtain ⟨x1, rfl⟩ := Way_fit h1
        obtain ⟨x2, rfl⟩ := Reach_fit h2
        exact FnExactTimeTo_c x0 x1 x2
theorem facts_FnExactTimeTo : rowFacts Try.prog 20 Try.f20 Rows.fnExactTimeToSpec Rows.fnExactTimeToRow = true := by kernel_rfl
theorem named_FnExactTimeTo : Try.pinned.checked.prog.funcNamed Rows.fnExactTimeToRow.func = some 20 := by kernel_rfl
theorem inst_FnExactTimeTo : Try.f20.isInstance Try.pinned.checked.prog Rows.fnExactTimeToRow.origin Rows.fnExactTimeToRow.targs := (of_decide_eq_true (by kernel_rfl))
theorem wrap_FnExactTimeTo : Try.f20.isWrapper Try.pinned.checked.prog Rows.fnExactTimeToRow.wrapper Rows.fnExactTimeToRow.mainSum := by
  unfold Func.isWrapper; first | (rw [if_pos (by decide +kernel)]; kernel_rfl) | (rw [if_neg (by decide +kernel)]; exact ⟨rfl, rfl⟩)
theorem FnExactTimeTo_holds : Rows.FnExactTimeToSaid :=
  OpenClaim.holds_of_wide (p := Try.pinned) (s := Rows.fnExactTimeToSpec) (c := Rows.fnExactTimeToRow) 20 Try.f20 rfl rfl rfl rfl rfl rfl rfl ⟨rfl, rfl, rfl, rfl, rfl⟩ rfl rfl rfl rfl rfl named_FnExactTimeTo Try.func20
    (joined_of seatFacts facts_FnExactTimeTo ⟨rfl, rfl, rfl, rfl, rfl, rfl, rfl, rfl⟩) inst_FnExactTimeTo wrap_FnExactTimeTo (fun os started H enc _ => lifted_FnExactTimeTo os started H enc)
end Go.Proofs.Ytfmgadchjiplmaa
