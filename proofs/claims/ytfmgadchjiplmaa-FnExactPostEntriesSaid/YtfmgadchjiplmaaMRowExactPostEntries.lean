/- The row of FnExactPostEntries. -/
import Derived.Test.YtfmgadchjiplmaaMHead
import Derived.Test.YtfmgadchjiplmaaMT22
import Derived.Test.YtfmgadchjiplmaaMFit
set_option linter.all false
namespace Go.Proofs.Ytfmgadchjiplmaa
open Go.ChangeShapes Go.WideShapes Go.RowKit

theorem isLaw_FnExactPostEntries : IsLaw Rows.fnExactPostEntriesSpec Try.f10.params.size := by
  refine ⟨rfl, fun H ds h => ?_⟩
  match ds, h with
  | [d0, d1], _ => rfl

theorem lawFacts_FnExactPostEntries : LawFacts Try.prog Try.f10 (Try.f10.resultTypes.getD 0 0) [(false, [.sl [.i, .i, .i, .i, .i]]), (false, [.sl [.i, .i, .i, .i, .i]])] :=
  ⟨fact_laid, by kernel_rfl, by kernel_rfl, by kernel_rfl, by kernel_rfl⟩

set_option maxRecDepth 100000 in
theorem lifted_FnExactPostEntries (os : Os) (started : os.Started) (H : Type) (enc : TypeId × Value → H) :
    ReturnsInHanded {} Try.checked os 10 .any (Rows.fnExactPostEntriesSpec.pre6 enc Try.prog Try.f10 Rows.fnExactPostEntriesRow.domain false) (Rows.fnExactPostEntriesSpec.post enc Try.prog Try.f10 false true false false) := by
  refine law_lifted (C := Try.checked) fact_own started (by kernel_rfl) Try.func10
    (ChangeSpec.witness6 (enc := enc) (C := Try.checked) false ⟨#[], #[.slice none 0 0, .slice none 0 0], []⟩ 8 (by kernel_rfl) (by kernel_rfl) (by kernel_rfl) (by kernel_rfl)) isLaw_FnExactPostEntries lawFacts_FnExactPostEntries ?_
  rintro avs ⟨a, avs0, rfl, ha, b, avs1, rfl, hb, rfl⟩
  cases ha with
  | one h0 =>
    cases hb with
    | one h1 =>
      obtain ⟨x0, rfl⟩ := h0.sl_inv Entry.enc fun xs h => Entry_fit h
      obtain ⟨x1, rfl⟩ := h1.sl_inv Entry.enc fun xs h => Entry_fit h
      exact FnExactPostEntries_c x0 x1
theorem facts_FnExactPostEntries : rowFacts Try.prog 10 Try.f10 Rows.fnExactPostEntriesSpec Rows.fnExactPostEntriesRow = true := by kernel_rfl
theorem named_FnExactPostEntries : Try.pinned.checked.prog.funcNamed Rows.fnExactPostEntriesRow.func = some 10 := by kernel_rfl
theorem inst_FnExactPostEntries : Try.f10.isInstance Try.pinned.checked.prog Rows.fnExactPostEntriesRow.origin Rows.fnExactPostEntriesRow.targs := (of_decide_eq_true (by kernel_rfl))
theorem wrap_FnExactPostEntries : Try.f10.isWrapper Try.pinned.checked.prog Rows.fnExactPostEntriesRow.wrapper Rows.fnExactPostEntriesRow.mainSum := by
  unfold Func.isWrapper; first | (rw [if_pos (by decide +kernel)]; kernel_rfl) | (rw [if_neg (by decide +kernel)]; exact ⟨rfl, rfl⟩)
theorem FnExactPostEntries_holds : Rows.FnExactPostEntriesSaid :=
  OpenClaim.holds_of_wide (p := Try.pinned) (s := Rows.fnExactPostEntriesSpec) (c := Rows.fnExactPostEntriesRow) 10 Try.f10 rfl rfl rfl rfl rfl rfl rfl ⟨rfl, rfl, rfl, rfl, rfl⟩ rfl rfl rfl rfl rfl named_FnExactPostEntries Try.func10
    (joined_of seatFacts facts_FnExactPostEntries ⟨rfl, rfl, rfl, rfl, rfl, rfl, rfl, rfl⟩) inst_FnExactPostEntries wrap_FnExactPostEntries (fun os started H enc _ => lifted_FnExactPostEntries os started H enc)
end Go.Proofs.Ytfmgadchjiplmaa
