/- Contracts of functions of this seat: what each answers, as plain Lean. -/
import Derived.Test.YtfmgadchjiplmaaMA5
import Derived.Test.YtfmgadchjiplmaaMT23
set_option linter.all false
namespace Go.Proofs.Ytfmgadchjiplmaa
open Go.RowKit

theorem nenc_fit {xs : List C} (h : Fits [.u] xs) : ∃ n : Nat, xs = nenc n := by
  obtain ⟨c0, ys, rfl, h0, h⟩ := h.cons_inv
  obtain rfl := h.nil_inv
  obtain ⟨n0, rfl⟩ := h0.u_inv
  exact ⟨n0, rfl⟩

end Go.Proofs.Ytfmgadchjiplmaa
