/- The row of FnExactTollEntries. -/
import Derived.Test.YtfmgadchjiplmaaMHead
import Derived.Test.YtfmgadchjiplmaaMT31
import Derived.Test.YtfmgadchjiplmaaMFit
set_option linter.all false
namespace Go.Proofs.Ytfmgadchjiplmaa
open Go.ChangeShapes Go.WideShapes Go.RowKit

theorem isLaw_FnExactTollEntries : IsLaw Rows.fnExactTollEntriesSpec Try.f25.params.size := by
  refine ⟨rfl, fun H ds h => ?_⟩
  match ds, h with
  | [d0, d1, d2], _ => rfl

theorem lawFacts_FnExactTollEntries : LawFacts Try.prog Try.f25 (Try.f25.resultTypes.getD 0 0) [(true, [.i, .i, .sl [.i], .sl [.i]]), (true, [.b, .sl [.sl [.i, .i, .i, .i, .i, .i]]]), (false, [.i])] :=
  ⟨fact_laid, by kernel_rfl, by kernel_rfl, by kernel_rfl, by kernel_rfl⟩

set_option maxRecDepth 100000 in
theorem lifted_FnExactTollEntries (os : Os) (started : os.Started) (H : Type) (enc : TypeId × Value → H) :
    ReturnsInHanded {} Try.checked os 25 .any (Rows.fnExactTollEntriesSpec.pre6 enc Try.prog Try.f25 Rows.fnExactTollEntriesRow.domain false) (Rows.fnExactTollEntriesSpec.post enc Try.prog Try.f25 false true false false) := by
  refine law_lifted (C := Try.checked) fact_own started (by kernel_rfl) Try.func25
    (ChangeSpec.witness6 (enc := enc) (C := Try.checked) false ⟨#[], #[.agg #[.int .i64 0, .int .i64 0, .slice none 0 0, .slice none 0 0], .agg #[.bool false, .slice none 0 0], .int .i64 0], []⟩ 8 (by kernel_rfl) (by kernel_rfl) (by kernel_rfl) (by kernel_rfl)) isLaw_FnExactTollEntries lawFacts_FnExactTollEntries ?_
  rintro avs ⟨a, avs0, rfl, ha, b, avs1, rfl, hb, c, avs2, rfl, hc, rfl⟩
  cases ha with
  | st h0 =>
    cases hb with
    | st h1 =>
      cases hc with
      | one h2 =>
        obtain ⟨x0, rfl⟩ := Tariff_fit h0
        obtain ⟨x1, rfl⟩ := Train_fit h1
        obtain ⟨x2, rfl⟩ := h2.i_inv
        exact FnExactTollEntries_c x0 x1 x2
theorem facts_FnExactTollEntries : rowFacts Try.prog 25 Try.f25 Rows.fnExactTollEntriesSpec Rows.fnExactTollEntriesRow = true := by kernel_rfl
theorem named_FnExactTollEntries : Try.pinned.checked.prog.funcNamed Rows.fnExactTollEntriesRow.func = some 25 := by kernel_rfl
theorem inst_FnExactTollEntries : Try.f25.isInstance Try.pinned.checked.prog Rows.fnExactTollEntriesRow.origin Rows.fnExactTollEntriesRow.targs := (of_decide_eq_true (by kernel_rfl))
theorem wrap_FnExactTollEntries : Try.f25.isWrapper Try.pinned.checked.prog Rows.fnExactTollEntriesRow.wrapper Rows.fnExactTollEntriesRow.mainSum := by
  unfold Func.isWrapper; first | (rw [if_pos (by decide +kernel)]; kernel_rfl) | (rw [if_neg (by decide +kernel)]; exact ⟨rfl, rfl⟩)
theorem FnExactTollEntries_holds : Rows.FnExactTollEntriesSaid :=
  OpenClaim.holds_of_wide (p := Try.pinned) (s := Rows.fnExactTollEntriesSpec) (c := Rows.fnExactTollEntriesRow) 25 Try.f25 rfl rfl rfl rfl rfl rfl rfl ⟨rfl, rfl, rfl, rfl, rfl⟩ rfl rfl rfl rfl rfl named_FnExactTollEntries Try.func25
    (joined_of seatFacts facts_FnExactTollEntries ⟨rfl, rfl, rfl, rfl, rfl, rfl, rfl, rfl⟩) inst_FnExactTollEntries wrap_FnExactTollEntries (fun os started H enc _ => lifted_FnExactTollEntries os started H enc)
end Go.Proofs.Ytfmgadchjiplmaa
