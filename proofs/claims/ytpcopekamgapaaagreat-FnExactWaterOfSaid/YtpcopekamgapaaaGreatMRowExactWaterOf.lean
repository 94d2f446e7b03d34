/- The row of FnExactWaterOf. -/
import Derived.Test.YtpcopekamgapaaaGreatMHead
import Derived.Test.YtpcopekamgapaaaGreatMT64
import Derived.Test.YtpcopekamgapaaaGreatMFit
set_option linter.all false
namespace Go.Proofs.YtpcopekamgapaaaGreat
open Go.ChangeShapes Go.WideShapes Go.RowKit

theorem isLaw_FnExactWaterOf : IsLaw Rows.fnExactWaterOfSpec Tryz.f4.params.size := by
  refine ⟨rfl, fun H ds h => ?_⟩
  match ds, h with
  | [d0], _ => rfl

theorem lawFacts_FnExactWaterOf : LawFacts Tryz.prog Tryz.f4 (Tryz.f4.resultTypes.getD 0 0) [(true, [.i, .sl [.sl [.i, .i], .i, .sl [.i]], .sl [.i, .i], .sl [.i, .i, .i, .i, .i, .i, .i, .i, .i, .sl [.b, .sl [.sl [.i, .i, .i, .i, .i, .i]]], .i, .i, .i, .i, .i, .i, .i, .i, .sl [.i, .i], .b, .i, .sl [.b, .sl [.sl [.i, .i, .i, .i, .i, .i]], .i, .i]], .sl [.sl [.b, .sl [.sl [.i, .i, .i, .i, .i, .i]], .i]], .sl [.b, .sl [.sl [.i, .i, .i, .i, .i, .i]]], .sl [.i], .i, .i, .sl [.i], .sl [.i], .sl [.i, .i, .i, .i, .i], .sl [.i, .i, .b, .sl [.sl [.i, .i, .i, .i, .i, .i]]], .i, .i, .i])] :=
  ⟨fact_laid, by kernel_rfl, by kernel_rfl, by kernel_rfl, by kernel_rfl⟩

set_option maxRecDepth 100000 in
theorem lifted_FnExactWaterOf (os : Os) (started : os.Started) (H : Type) (enc : TypeId × Value → H) :
    ReturnsInHanded {} Tryz.checked os 4 .any (Rows.fnExactWaterOfSpec.pre6 enc Tryz.prog Tryz.f4 Rows.fnExactWaterOfRow.domain false) (Rows.fnExactWaterOfSpec.post enc Tryz.prog Tryz.f4 false true false false) := by
  refine law_lifted (C := Tryz.checked) fact_own started (by kernel_rfl) Tryz.func4
    (ChangeSpec.witness6 (enc := enc) (C := Tryz.checked) false ⟨#[], #[.agg #[.int .i64 0, .slice none 0 0, .slice none 0 0, .slice none 0 0, .slice none 0 0, .slice none 0 0, .slice none 0 0, .int .i64 0, .int .i64 0, .slice none 0 0, .slice none 0 0, .slice none 0 0, .slice none 0 0, .int .i64 0, .int .i64 0, .int .i64 0]], []⟩ 8 (by kernel_rfl) (by kernel_rfl) (by kernel_rfl) (by kernel_rfl)) isLaw_FnExactWaterOf lawFacts_FnExactWaterOf ?_
  rintro avs ⟨a, avs0, rfl, ha, rfl⟩
  cases ha with
  | st h0 =>
    obtain ⟨x0, rfl⟩ := Waterway_fit h0
    exact FnExactWaterOf_c x0
theorem facts_FnExactWaterOf : rowFacts Tryz.prog 4 Tryz.f4 Rows.fnExactWaterOfSpec Rows.fnExactWaterOfRow = true := by kernel_rfl
theorem named_FnExactWaterOf : Tryz.pinned.checked.prog.funcNamed Rows.fnExactWaterOfRow.func = some 4 := by kernel_rfl
theorem inst_FnExactWaterOf : Tryz.f4.isInstance Tryz.pinned.checked.prog Rows.fnExactWaterOfRow.origin Rows.fnExactWaterOfRow.targs := (of_decide_eq_true (by kernel_rfl))
theorem wrap_FnExactWaterOf : Tryz.f4.isWrapper Tryz.pinned.checked.prog Rows.fnExactWaterOfRow.wrapper Rows.fnExactWaterOfRow.mainSum := by
  unfold Func.isWrapper; first | (rw [if_pos (by decide +kernel)]; kernel_rfl) | (rw [if_neg (by decide +kernel)]; exact ⟨rfl, rfl⟩)
theorem FnExactWaterOf_holds : Rows.FnExactWaterOfSaid :=
  OpenClaim.holds_of_wide (p := Tryz.pinned) (s := Rows.fnExactWaterOfSpec) (c := Rows.fnExactWaterOfRow) 4 Tryz.f4 rfl rfl rfl rfl rfl rfl rfl ⟨rfl, rfl, rfl, rfl, rfl⟩ rfl rfl rfl rfl rfl named_FnExactWaterOf Tryz.func4
    (joined_of seatFacts facts_FnExactWaterOf ⟨rfl, rfl, rfl, rfl, rfl, rfl, rfl, rfl⟩) inst_FnExactWaterOf wrap_FnExactWaterOf (fun os started H enc _ => lifted_FnExactWaterOf os started H enc)
end Go.Proofs.YtpcopekamgapaaaGreat
