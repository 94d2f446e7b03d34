/- Contracts of functions of this seat: what each answers, as plain Lean. -/
import Derived.Test.YtfmgadchjiplmaaMFit
import Derived.Test.YtfmgadchjiplmaaMTy3
set_option linter.all false
namespace Go.Proofs.Ytfmgadchjiplmaa
open Go.RowKit

theorem Lock_fit {xs : List C} (h : Fits [.i, .i, .i, .i, .i, .i, .i, .i, .i, .sl [.b, .sl [.sl [.i, .i, .i, .i, .i, .i]]]] xs) : ∃ e : Lock, xs = e.enc := by
  obtain ⟨c0, ys, rfl, h0, h⟩ := h.cons_inv
  obtain ⟨c1, ys, rfl, h1, h⟩ := h.cons_inv
  obtain ⟨c2, ys, rfl, h2, h⟩ := h.cons_inv
  obtain ⟨c3, ys, rfl, h3, h⟩ := h.cons_inv
  obtain ⟨c4, ys, rfl, h4, h⟩ := h.cons_inv
  obtain ⟨c5, ys, rfl, h5, h⟩ := h.cons_inv
  obtain ⟨c6, ys, rfl, h6, h⟩ := h.cons_inv
  obtain ⟨c7, ys, rfl, h7, h⟩ := h.cons_inv
  obtain ⟨c8, ys, rfl, h8, h⟩ := h.cons_inv
  obtain ⟨c9, ys, rfl, h9, h⟩ := h.cons_inv
  obtain rfl := h.nil_inv
  obtain ⟨n0, rfl⟩ := h0.i_inv
  obtain ⟨n1, rfl⟩ := h1.i_inv
  obtain ⟨n2, rfl⟩ := h2.i_inv
  obtain ⟨n3, rfl⟩ := h3.i_inv
  obtain ⟨n4, rfl⟩ := h4.i_inv
  obtain ⟨n5, rfl⟩ := h5.i_inv
  obtain ⟨n6, rfl⟩ := h6.i_inv
  obtain ⟨n7, rfl⟩ := h7.i_inv
  obtain ⟨n8, rfl⟩ := h8.i_inv
  obtain ⟨n9, rfl⟩ := h9.sl_inv Train.enc fun _ h => Train_fit h
  exact ⟨⟨n0, n1, n2, n3, n4, n5, n6, n7, n8, n9⟩, rfl⟩
theorem Weir_fit {xs : List C} (h : Fits [.i, .i, .i, .i, .i] xs) : ∃ e : Weir, xs = e.enc := by
  obtain ⟨c0, ys, rfl, h0, h⟩ := h.cons_inv
  obtain ⟨c1, ys, rfl, h1, h⟩ := h.cons_inv
  obtain ⟨c2, ys, rfl, h2, h⟩ := h.cons_inv
  obtain ⟨c3, ys, rfl, h3, h⟩ := h.cons_inv
  obtain ⟨c4, ys, rfl, h4, h⟩ := h.cons_inv
  obtain rfl := h.nil_inv
  obtain ⟨n0, rfl⟩ := h0.i_inv
  obtain ⟨n1, rfl⟩ := h1.i_inv
  obtain ⟨n2, rfl⟩ := h2.i_inv
  obtain ⟨n3, rfl⟩ := h3.i_inv
  obtain ⟨n4, rfl⟩ := h4.i_inv
  exact ⟨⟨n0, n1, n2, n3, n4⟩, rfl⟩
theorem Rule_fit {xs : List C} (h : Fits [.i, .i, .i] xs) : ∃ e : Rule, xs = e.enc := by
  obtain ⟨c0, ys, rfl, h0, h⟩ := h.cons_inv
  obtain ⟨c1, ys, rfl, h1, h⟩ := h.cons_inv
  obtain ⟨c2, ys, rfl, h2, h⟩ := h.cons_inv
  obtain rfl := h.nil_inv
  obtain ⟨n0, rfl⟩ := h0.i_inv
  obtain ⟨n1, rfl⟩ := h1.i_inv
  obtain ⟨n2, rfl⟩ := h2.i_inv
  exact ⟨⟨n0, n1, n2⟩, rfl⟩
theorem Pause_fit {xs : List C} (h : Fits [.i, .i] xs) : ∃ e : Pause, xs = e.enc := by
  obtain ⟨c0, ys, rfl, h0, h⟩ := h.cons_inv
  obtain ⟨c1, ys, rfl, h1, h⟩ := h.cons_inv
  obtain rfl := h.nil_inv
  obtain ⟨n0, rfl⟩ := h0.i_inv
  obtain ⟨n1, rfl⟩ := h1.i_inv
  exact ⟨⟨n0, n1⟩, rfl⟩
theorem Turn_fit {xs : List C} (h : Fits [.b, .i] xs) : ∃ e : Turn, xs = e.enc := by
  obtain ⟨c0, ys, rfl, h0, h⟩ := h.cons_inv
  obtain ⟨c1, ys, rfl, h1, h⟩ := h.cons_inv
  obtain rfl := h.nil_inv
  obtain ⟨n0, rfl⟩ := h0.b_inv
  obtain ⟨n1, rfl⟩ := h1.i_inv
  exact ⟨⟨n0, n1⟩, rfl⟩
theorem Call_fit {xs : List C} (h : Fits [.b, .sl [.sl [.i, .i, .i, .i, .i, .i]], .i, .i] xs) : ∃ e : CallT, xs = e.enc := by
  obtain ⟨c0, ys, rfl, h0, h⟩ := h.cons_inv
  obtain ⟨c1, ys, rfl, h1, h⟩ := h.cons_inv
  obtain ⟨c2, ys, rfl, h2, h⟩ := h.cons_inv
  obtain ⟨c3, ys, rfl, h3, h⟩ := h.cons_inv
  obtain rfl := h.nil_inv
  obtain ⟨n0, rfl⟩ := h0.b_inv
  obtain ⟨n1, rfl⟩ := h1.sl_inv enc_BoatS fun _ h => BoatS_fit h
  obtain ⟨n2, rfl⟩ := h2.i_inv
  obtain ⟨n3, rfl⟩ := h3.i_inv
  exact ⟨⟨⟨n0, n1⟩, n2, n3⟩, rfl⟩
theorem Work_fit {xs : List C} (h : Fits [.i, .i, .i, .i, .i, .i, .i, .i, .i, .sl [.b, .sl [.sl [.i, .i, .i, .i, .i, .i]]], .i, .i, .i, .i, .i, .i, .i, .i, .sl [.i, .i], .b, .i, .sl [.b, .sl [.sl [.i, .i, .i, .i, .i, .i]], .i, .i]] xs) : ∃ e : Work, xs = e.enc := by
  obtain ⟨c0, ys, rfl, h0, h⟩ := h.cons_inv
  obtain ⟨c1, ys, rfl, h1, h⟩ := h.cons_inv
  obtain ⟨c2, ys, rfl, h2, h⟩ := h.cons_inv
  obtain ⟨c3, ys, rfl, h3, h⟩ := h.cons_inv
  obtain ⟨c4, ys, rfl, h4, h⟩ := h.cons_inv
  obtain ⟨c5, ys, rfl, h5, h⟩ := h.cons_inv
  obtain ⟨c6, ys, rfl, h6, h⟩ := h.cons_inv
  obtain ⟨c7, ys, rfl, h7, h⟩ := h.cons_inv
  obtain ⟨c8, ys, rfl, h8, h⟩ := h.cons_inv
  obtain ⟨c9, ys, rfl, h9, h⟩ := h.cons_inv
  obtain ⟨c10, ys, rfl, h10, h⟩ := h.cons_inv
  obtain ⟨c11, ys, rfl, h11, h⟩ := h.cons_inv
  obtain ⟨c12, ys, rfl, h12, h⟩ := h.cons_inv
  obtain ⟨c13, ys, rfl, h13, h⟩ := h.cons_inv
  obtain ⟨c14, ys, rfl, h14, h⟩ := h.cons_inv
  obtain ⟨c15, ys, rfl, h15, h⟩ := h.cons_inv
  obtain ⟨c16, ys, rfl, h16, h⟩ := h.cons_inv
  obtain ⟨c17, ys, rfl, h17, h⟩ := h.cons_inv
  obtain ⟨c18, ys, rfl, h18, h⟩ := h.cons_inv
  obtain ⟨c19, ys, rfl, h19, h⟩ := h.cons_inv
  obtain ⟨c20, ys, rfl, h20, h⟩ := h.cons_inv
  obtain ⟨c21, ys, rfl, h21, h⟩ := h.cons_inv
  obtain rfl := h.nil_inv
  obtain ⟨n0, rfl⟩ := h0.i_inv
  obtain ⟨n1, rfl⟩ := h1.i_inv
  obtain ⟨n2, rfl⟩ := h2.i_inv
  obtain ⟨n3, rfl⟩ := h3.i_inv
  obtain ⟨n4, rfl⟩ := h4.i_inv
  obtain ⟨n5, rfl⟩ := h5.i_inv
  obtain ⟨n6, rfl⟩ := h6.i_inv
  obtain ⟨n7, rfl⟩ := h7.i_inv
  obtain ⟨n8, rfl⟩ := h8.i_inv
  obtain ⟨n9, rfl⟩ := h9.sl_inv Train.enc fun _ h => Train_fit h
  obtain ⟨n10, rfl⟩ := h10.i_inv
  obtain ⟨n11, rfl⟩ := h11.i_inv
  obtain ⟨n12, rfl⟩ := h12.i_inv
  obtain ⟨n13, rfl⟩ := h13.i_inv
  obtain ⟨n14, rfl⟩ := h14.i_inv
  obtain ⟨n15, rfl⟩ := h15.i_inv
  obtain ⟨n16, rfl⟩ := h16.i_inv
  obtain ⟨n17, rfl⟩ := h17.i_inv
  obtain ⟨n18, rfl⟩ := h18.sl_inv Pause.enc fun _ h => Pause_fit h
  obtain ⟨n19, rfl⟩ := h19.b_inv
  obtain ⟨n20, rfl⟩ := h20.i_inv
  obtain ⟨n21, rfl⟩ := h21.sl_inv CallT.enc fun _ h => Call_fit h
  exact ⟨⟨⟨n0, n1, n2, n3, n4, n5, n6, n7, n8, n9⟩, ⟨n10, n11, n12, n13, n14⟩, ⟨n15, n16, n17⟩, n18, ⟨n19, n20⟩, n21⟩, rfl⟩

end Go.Proofs.Ytfmgadchjiplmaa
