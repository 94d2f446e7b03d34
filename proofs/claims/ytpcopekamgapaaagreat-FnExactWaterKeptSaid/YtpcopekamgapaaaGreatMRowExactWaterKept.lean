/- The row of FnExactWaterKept. -/
import Derived.Test.YtpcopekamgapaaaGreatMHead
import Derived.Test.YtpcopekamgapaaaGreatMT64
import Derived.Test.YtpcopekamgapaaaGreatMFit
set_option linter.all false
namespace Go.Proofs.YtpcopekamgapaaaGreat
open Go.ChangeShapes Go.WideShapes Go.RowKit

theorem isLaw_FnExactWaterKept : IsLaw Rows.fnExactWaterKeptSpec Tryz.f5.params.size := by
  refine ⟨rfl, fun H ds h => ?_⟩
  match ds, h with
  | [d0], _ => rfl

theorem lawFacts_FnExactWaterKept : LawFacts Tryz.prog Tryz.f5 (Tryz.f5.resultTypes.getD 0 0) [(true, [.i, .sl [.sl [.i, .i], .i, .sl [.i]], .sl [.i, .i], .sl [.i, .i, .i, .i, .i, .i, .i, .i, .i, .sl [.b, .sl [.sl [.i, .i, .i, .i, .i, .i]]], .i, .i, .i, .i, .i, .i, .i, .i, .sl [.i, .i], .b, .i, .sl [.b, .sl [.sl [.i, .i, .i, .i, .i, .i]], .i, .i]], .sl [.sl [.b, .sl [.sl [.i, .i, .i, .i, .i, .i]], .i]], .sl [.b, .sl [.sl [.i, .i, .i, .i, .i, .i]]], .sl [.i], .i, .i, .sl [.i], .sl [.i], .sl [.i, .i, .i, .i, .i], .sl [.i, .i, .b, .sl [.sl [.i, .i, .i, .i, .i, .i]]], .i, .i, .i])] :=
  ⟨fact_laid, by kernel_rfl, by kernel_rfl, by kernel_rfl, by kernel_rfl⟩

set_option maxRecDepth 100000 in
theorem lifted_FnExactWaterKept (os : Os) (started : os.Started) (H : Type) (enc : TypeId × Value → H) :
    ReturnsInHanded {} Tryz.checked os 5 .any (Rows.fnExactWaterKeptSpec.pre6 enc Tryz.prog Tryz.f5 Rows.fnExactWaterKeptRow.domain false) (Rows.fnExactWaterKeptSpec.post enc Tryz.prog Tryz.f5 false true false false) := by
  refine law_lifted (C := Tryz.checked) fact_own started (by kernel_rfl) Tryz.func5
    (ChangeSpec.witness6 (enc := enc) (C := Tryz.checked) false ⟨#[], #[.agg #[.int .i64 0, .slice none 0 0, .slice none 0 0, .slice none 0 0, .slice none 0 0, .slice none 0 0, .slice none 0 0, .int .i64 0, .int .i64 0, .slice none 0 0, .slice none 0 0, .slice none 0 0, .slice none 0 0, .int .i64 0, .int .i64 0, .int .i64 0]], []⟩ 8 (by kernel_rfl) (by kernel_rfl) (by kernel_rfl) (by kernel_rfl)) isLaw_FnExactWaterKept lawFacts_FnExactWaterKept ?_
  rintro avs ⟨a, avs0, rfl, ha, rfl⟩
  cases ha with
  | st h0 =>
    obtain ⟨x0, rfl⟩ := Waterway_fit h0
    exact FnExactWaterKept_c x0
theorem facts_FnExactWaterKept : rowFacts Tryz.prog 5 Tryz.f5 Rows.fnExactWaterKeptSpec Rows.fnExactWaterKeptRow = true := by kernel_rfl
theorem named_FnExactWaterKept : Tryz.pinned.checked.prog.funcNamed Rows.fnExactWaterKeptRow.func = some 5 := by kernel_rfl
theorem inst_FnExactWaterKept : Tryz.f5.isInstance Tryz.pinned.checked.prog Rows.fnExactWaterKeptRow.origin Rows.fnExactWaterKeptRow.targs := (of_decide_eq_true (by kernel_rfl))
theorem wrap_FnExactWaterKept : Tryz.f5.isWrapper Tryz.pinned.checked.prog Rows.fnExactWaterKeptRow.wrapper Rows.fnExactWaterKeptRow.mainSum := by
  unfold Func.isWrapper; first | (rw [if_pos (by decide +kernel)]; kernel_rfl) | (rw [if_neg (by decide +kernel)]; exact ⟨rfl, rfl⟩)
theorem FnExactWaterKept_holds : Rows.FnExactWaterKeptSaid :=
  OpenClaim.holds_of_wide (p := Tryz.pinned) (s := Rows.fnExactWaterKeptSpec) (c := Rows.fnExactWaterKeptRow) 5 Tryz.f5 rfl rfl rfl rfl rfl rfl rfl ⟨rfl, rfl, rfl, rfl, rfl⟩ rfl rfl rfl rfl rfl named_FnExactWaterKept Tryz.func5
    (joined_of seatFacts facts_FnExactWaterKept ⟨rfl, rfl, rfl, rfl, rfl, rfl, rfl, rfl⟩) inst_FnExactWaterKept wrap_FnExactWaterKept (fun os started H enc _ => lifted_FnExactWaterKept os started H enc)
end Go.Proofs.YtpcopekamgapaaaGreat
