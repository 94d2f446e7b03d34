/- Contracts of functions of this seat: what each answers, as plain Lean. -/
import Derived.Test.YtfmgadchjiplmaaMTy2
import Derived.Test.YtfmgadchjiplmaaMA5
set_option linter.all false
namespace Go.Proofs.Ytfmgadchjiplmaa
open Go.RowKit


theorem Entry_fit {xs : List C} (h : Fits [.i, .i, .i, .i, .i] xs) : ∃ e : Entry, xs = e.enc := by
  obtain ⟨c0, ys, rfl, h0, h⟩ := h.cons_inv
  obtain ⟨c1, ys, rfl, h1, h⟩ := h.cons_inv
  obtain ⟨c2, ys, rfl, h2, h⟩ := h.cons_inv
  obtain ⟨c3, ys, rfl, h3, h⟩ := h.cons_inv
  obtain ⟨c4, ys, rfl, h4, h⟩ := h.cons_inv
  obtain rfl := h.nil_inv
  obtain ⟨n0, rfl⟩ := h0.i_inv
  obtain ⟨n1, rfl⟩ := h1.i_inv
  obtain ⟨n2, rfl⟩ := h2.i_inv
  obtain ⟨n3, rfl⟩ := h3.i_inv
  obtain ⟨n4, rfl⟩ := h4.i_inv
  exact ⟨⟨n0, n1, n2, n3, n4⟩, rfl⟩
theorem ienc_fit {xs : List C} (h : Fits [.i] xs) : ∃ n : Int, xs = ienc n := by
  obtain ⟨c0, ys, rfl, h0, h⟩ := h.cons_inv
  obtain rfl := h.nil_inv
  obtain ⟨n0, rfl⟩ := h0.i_inv
  exact ⟨n0, rfl⟩
theorem Tariff_fit {xs : List C} (h : Fits [.i, .i, .sl [.i], .sl [.i]] xs) : ∃ t : Tariff, xs = t.enc := by
  obtain ⟨c0, ys, rfl, h0, h⟩ := h.cons_inv
  obtain ⟨c1, ys, rfl, h1, h⟩ := h.cons_inv
  obtain ⟨c2, ys, rfl, h2, h⟩ := h.cons_inv
  obtain ⟨c3, ys, rfl, h3, h⟩ := h.cons_inv
  obtain rfl := h.nil_inv
  obtain ⟨n0, rfl⟩ := h0.i_inv
  obtain ⟨n1, rfl⟩ := h1.i_inv
  obtain ⟨n2, rfl⟩ := h2.sl_inv ienc fun _ h => ienc_fit h
  obtain ⟨n3, rfl⟩ := h3.sl_inv ienc fun _ h => ienc_fit h
  exact ⟨⟨n0, n1, n2, n3⟩, rfl⟩
theorem Way_fit {xs : List C} (h : Fits [.i, .i] xs) : ∃ e : Way, xs = e.enc := by
  obtain ⟨c0, ys, rfl, h0, h⟩ := h.cons_inv
  obtain ⟨c1, ys, rfl, h1, h⟩ := h.cons_inv
  obtain rfl := h.nil_inv
  obtain ⟨n0, rfl⟩ := h0.i_inv
  obtain ⟨n1, rfl⟩ := h1.i_inv
  exact ⟨⟨n0, n1⟩, rfl⟩
theorem Boat_fit {xs : List C} (h : Fits [.i, .i, .i, .i, .i, .i] xs) : ∃ e : Boat, xs = e.enc := by
  obtain ⟨c0, ys, rfl, h0, h⟩ := h.cons_inv
  obtain ⟨c1, ys, rfl, h1, h⟩ := h.cons_inv
  obtain ⟨c2, ys, rfl, h2, h⟩ := h.cons_inv
  obtain ⟨c3, ys, rfl, h3, h⟩ := h.cons_inv
  obtain ⟨c4, ys, rfl, h4, h⟩ := h.cons_inv
  obtain ⟨c5, ys, rfl, h5, h⟩ := h.cons_inv
  obtain rfl := h.nil_inv
  obtain ⟨n0, rfl⟩ := h0.i_inv
  obtain ⟨n1, rfl⟩ := h1.i_inv
  obtain ⟨n2, rfl⟩ := h2.i_inv
  obtain ⟨n3, rfl⟩ := h3.i_inv
  obtain ⟨n4, rfl⟩ := h4.i_inv
  obtain ⟨n5, rfl⟩ := h5.i_inv
  exact ⟨⟨n0, n1, n2, n3, n4, n5⟩, rfl⟩
theorem BoatS_fit {xs : List C} (h : Fits [.sl [.i, .i, .i, .i, .i, .i]] xs) : ∃ e : List Boat, xs = enc_BoatS e := by
  obtain ⟨c0, ys, rfl, h0, h⟩ := h.cons_inv
  obtain rfl := h.nil_inv
  obtain ⟨n0, rfl⟩ := h0.sl_inv Boat.enc fun _ h => Boat_fit h
  exact ⟨n0, rfl⟩
theorem Train_fit {xs : List C} (h : Fits [.b, .sl [.sl [.i, .i, .i, .i, .i, .i]]] xs) : ∃ e : Train, xs = e.enc := by
  obtain ⟨c0, ys, rfl, h0, h⟩ := h.cons_inv
  obtain ⟨c1, ys, rfl, h1, h⟩ := h.cons_inv
  obtain rfl := h.nil_inv
  obtain ⟨n0, rfl⟩ := h0.b_inv
  obtain ⟨n1, rfl⟩ := h1.sl_inv enc_BoatS fun _ h => BoatS_fit h
  exact ⟨⟨n0, n1⟩, rfl⟩
theorem Mover_fit {xs : List C} (h : Fits [.b, .sl [.sl [.i, .i, .i, .i, .i, .i]], .i] xs) : ∃ e : Mover, xs = e.enc := by
  obtain ⟨c0, ys, rfl, h0, h⟩ := h.cons_inv
  obtain ⟨c1, ys, rfl, h1, h⟩ := h.cons_inv
  obtain ⟨c2, ys, rfl, h2, h⟩ := h.cons_inv
  obtain rfl := h.nil_inv
  obtain ⟨n0, rfl⟩ := h0.b_inv
  obtain ⟨n1, rfl⟩ := h1.sl_inv enc_BoatS fun _ h => BoatS_fit h
  obtain ⟨n2, rfl⟩ := h2.i_inv
  exact ⟨⟨⟨n0, n1⟩, n2⟩, rfl⟩

theorem Point_fit {xs : List C} (h : Fits [.i, .i] xs) : ∃ e : Point, xs = e.enc := by
  obtain ⟨c0, ys, rfl, h0, h⟩ := h.cons_inv
  obtain ⟨c1, ys, rfl, h1, h⟩ := h.cons_inv
  obtain rfl := h.nil_inv
  obtain ⟨n0, rfl⟩ := h0.i_inv
  obtain ⟨n1, rfl⟩ := h1.i_inv
  exact ⟨⟨n0, n1⟩, rfl⟩
theorem Reach_fit {xs : List C} (h : Fits [.sl [.i, .i], .i, .sl [.i]] xs) : ∃ e : Reach, xs = e.enc := by
  obtain ⟨c0, ys, rfl, h0, h⟩ := h.cons_inv
  obtain ⟨c1, ys, rfl, h1, h⟩ := h.cons_inv
  obtain ⟨c2, ys, rfl, h2, h⟩ := h.cons_inv
  obtain rfl := h.nil_inv
  obtain ⟨n0, rfl⟩ := h0.sl_inv Point.enc fun _ h => Point_fit h
  obtain ⟨n1, rfl⟩ := h1.i_inv
  obtain ⟨n2, rfl⟩ := h2.sl_inv ienc fun _ h => ienc_fit h
  exact ⟨⟨n0, n1, n2⟩, rfl⟩


end Go.Proofs.Ytfmgadchjiplmaa
