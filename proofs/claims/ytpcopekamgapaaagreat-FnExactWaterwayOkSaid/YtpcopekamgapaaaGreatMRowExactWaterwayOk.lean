/- The row of FnExactWaterwayOk. -/
import Derived.Test.YtpcopekamgapaaaGreatMHead
import Derived.Test.YtpcopekamgapaaaGreatMT63
import Derived.Test.YtpcopekamgapaaaGreatMFit
set_option linter.all false
namespace Go.Proofs.YtpcopekamgapaaaGreat
open Go.ChangeShapes Go.WideShapes Go.RowKit

theorem isLaw_FnExactWaterwayOk : IsLaw Rows.fnExactWaterwayOkSpec Tryz.f3.params.size := by
  refine ⟨rfl, fun H ds h => ?_⟩
  match ds, h with
  | [d0], _ => rfl

theorem lawFacts_FnExactWaterwayOk : LawFacts Tryz.prog Tryz.f3 (Tryz.f3.resultTypes.getD 0 0) [(true, [.i, .sl [.sl [.i, .i], .i, .sl [.i]], .sl [.i, .i], .sl [.i, .i, .i, .i, .i, .i, .i, .i, .i, .sl [.b, .sl [.sl [.i, .i, .i, .i, .i, .i]]], .i, .i, .i, .i, .i, .i, .i, .i, .sl [.i, .i], .b, .i, .sl [.b, .sl [.sl [.i, .i, .i, .i, .i, .i]], .i, .i]], .sl [.sl [.b, .sl [.sl [.i, .i, .i, .i, .i, .i]], .i]], .sl [.b, .sl [.sl [.i, .i, .i, .i, .i, .i]]], .sl [.i], .i, .i, .sl [.i], .sl [.i], .sl [.i, .i, .i, .i, .i], .sl [.i, .i, .b, .sl [.sl [.i, .i, .i, .i, .i, .i]]], .i, .i, .i])] :=
  ⟨fact_laid, by kernel_rfl, by kernel_rfl, by kernel_rfl, by kernel_rfl⟩

set_option maxRecDepth 100000 in
theorem lifted_FnExactWaterwayOk (os : Os) (started : os.Started) (H : Type) (enc : TypeId × Value → H) :
    ReturnsInHanded {} Tryz.checked os 3 .any (Rows.fnExactWaterwayOkSpec.pre6 enc Tryz.prog Tryz.f3 Rows.fnExactWaterwayOkRow.domain false) (Rows.fnExactWaterwayOkSpec.post enc Tryz.prog Tryz.f3 false true false false) := by
  refine law_lifted (C := Tryz.checked) fact_own started (by kernel_rfl) Tryz.func3
    (ChangeSpec.witness6 (enc := enc) (C := Tryz.checked) false ⟨#[], #[.agg #[.int .i64 0, .slice none 0 0, .slice none 0 0, .slice none 0 0, .slice none 0 0, .slice none 0 0, .slice none 0 0, .int .i64 0, .int .i64 0, .slice none 0 0, .slice none 0 0, .slice none 0 0, .slice none 0 0, .int .i64 0, .int .i64 0, .int .i64 0]], []⟩ 8 (by kernel_rfl) (by kernel_rfl) (by kernel_rfl) (by kernel_rfl)) isLaw_FnExactWaterwayOk lawFacts_FnExactWaterwayOk ?_
  rintro avs ⟨a, avs0, rfl, ha, rfl⟩
  cases ha with
  | st h0 =>
    obtain ⟨x0, rfl⟩ := Waterway_fit h0
    exact FnExactWaterwayOk_c x0
theorem facts_FnExactWaterwayOk : rowFacts Tryz.prog 3 Tryz.f3 Rows.fnExactWaterwayOkSpec Rows.fnExactWaterwayOkRow = true := by kernel_rfl
theorem named_FnExactWaterwayOk : Tryz.pinned.checked.prog.funcNamed Rows.fnExactWaterwayOkRow.func = some 3 := by kernel_rfl
theorem inst_FnExactWaterwayOk : Tryz.f3.isInstance Tryz.pinned.checked.prog Rows.fnExactWaterwayOkRow.origin Rows.fnExactWaterwayOkRow.targs := (of_decide_eq_true (by kernel_rfl))
theorem wrap_FnExactWaterwayOk : Tryz.f3.isWrapper Tryz.pinned.checked.prog Rows.fnExactWaterwayOkRow.wrapper Rows.fnExactWaterwayOkRow.mainSum := by
  unfold Func.isWrapper; first | (rw [if_pos (by decide +kernel)]; kernel_rfl) | (rw [if_neg (by decide +kernel)]; exact ⟨rfl, rfl⟩)
theorem FnExactWaterwayOk_holds : Rows.FnExactWaterwayOkSaid :=
  OpenClaim.holds_of_wide (p := Tryz.pinned) (s := Rows.fnExactWaterwayOkSpec) (c := Rows.fnExactWaterwayOkRow) 3 Tryz.f3 rfl rfl rfl rfl rfl rfl rfl ⟨rfl, rfl, rfl, rfl, rfl⟩ rfl rfl rfl rfl rfl named_FnExactWaterwayOk Tryz.func3
    (joined_of seatFacts facts_FnExactWaterwayOk ⟨rfl, rfl, rfl, rfl, rfl, rfl, rfl, rfl⟩) inst_FnExactWaterwayOk wrap_FnExactWaterwayOk (fun os started H enc _ => lifted_FnExactWaterwayOk os started H enc)
end Go.Proofs.YtpcopekamgapaaaGreat
