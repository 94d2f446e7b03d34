/- Contracts of functions of this seat: what each answers, as plain Lean. -/
import Derived.Test.YtpcopekamgapaaaGreatMTyW
import Derived.Test.YtpcopekamgapaaaGreatMA5
set_option linter.all false
namespace Go.Proofs.YtpcopekamgapaaaGreat
open Go.RowKit


theorem Entry_fit {xs : List C} (h : Fits [.i, .i, .i, .i, .i] xs) : ∃ e : Entry, xs = e.enc := by
  obtain ⟨c0, ys, rfl, h0, h⟩ := h.cons_inv
  obtain ⟨c1, ys, rfl, h1, h⟩ := h.cons_inv
  obtain ⟨c2, ys, rfl, h2, h⟩ := h.cons_inv
  obtain ⟨c3, ys, rfl, h3, h⟩ := h.cons_inv
  obtain ⟨c4, ys, rfl, h4, h⟩ := h.cons_inv
  obtain rfl := h.nil_inv
  obtain ⟨n0, rfl⟩ := h0.i_inv
  obtain ⟨n1, rfl⟩ := h1.i_inv
  obtain ⟨n2, rfl⟩ := h2.i_inv
  obtain ⟨n3, rfl⟩ := h3.i_inv
  obtain ⟨n4, rfl⟩ := h4.i_inv
  exact ⟨⟨n0, n1, n2, n3, n4⟩, rfl⟩
theorem ienc_fit {xs : List C} (h : Fits [.i] xs) : ∃ n : Int, xs = ienc n := by
  obtain ⟨c0, ys, rfl, h0, h⟩ := h.cons_inv
  obtain rfl := h.nil_inv
  obtain ⟨n0, rfl⟩ := h0.i_inv
  exact ⟨n0, rfl⟩
theorem Tariff_fit {xs : List C} (h : Fits [.i, .i, .sl [.i], .sl [.i]] xs) : ∃ t : Tariff, xs = t.enc := by
  obtain ⟨c0, ys, rfl, h0, h⟩ := h.cons_inv
  obtain ⟨c1, ys, rfl, h1, h⟩ := h.cons_inv
  obtain ⟨c2, ys, rfl, h2, h⟩ := h.cons_inv
  obtain ⟨c3, ys, rfl, h3, h⟩ := h.cons_inv
  obtain rfl := h.nil_inv
  obtain ⟨n0, rfl⟩ := h0.i_inv
  obtain ⟨n1, rfl⟩ := h1.i_inv
  obtain ⟨n2, rfl⟩ := h2.sl_inv ienc fun _ h => ienc_fit h
  obtain ⟨n3, rfl⟩ := h3.sl_inv ienc fun _ h => ienc_fit h
  exact ⟨⟨n0, n1, n2, n3⟩, rfl⟩
theorem Way_fit {xs : List C} (h : Fits [.i, .i] xs) : ∃ e : Way, xs = e.enc := by
  obtain ⟨c0, ys, rfl, h0, h⟩ := h.cons_inv
  obtain ⟨c1, ys, rfl, h1, h⟩ := h.cons_inv
  obtain rfl := h.nil_inv
  obtain ⟨n0, rfl⟩ := h0.i_inv
  obtain ⟨n1, rfl⟩ := h1.i_inv
  exact ⟨⟨n0, n1⟩, rfl⟩
theorem Boat_fit {xs : List C} (h : Fits [.i, .i, .i, .i, .i, .i] xs) : ∃ e : Boat, xs = e.enc := by
  obtain ⟨c0, ys, rfl, h0, h⟩ := h.cons_inv
  obtain ⟨c1, ys, rfl, h1, h⟩ := h.cons_inv
  obtain ⟨c2, ys, rfl, h2, h⟩ := h.cons_inv
  obtain ⟨c3, ys, rfl, h3, h⟩ := h.cons_inv
  obtain ⟨c4, ys, rfl, h4, h⟩ := h.cons_inv
  obtain ⟨c5, ys, rfl, h5, h⟩ := h.cons_inv
  obtain rfl := h.nil_inv
  obtain ⟨n0, rfl⟩ := h0.i_inv
  obtain ⟨n1, rfl⟩ := h1.i_inv
  obtain ⟨n2, rfl⟩ := h2.i_inv
  obtain ⟨n3, rfl⟩ := h3.i_inv
  obtain ⟨n4, rfl⟩ := h4.i_inv
  obtain ⟨n5, rfl⟩ := h5.i_inv
  exact ⟨⟨n0, n1, n2, n3, n4, n5⟩, rfl⟩
theorem BoatS_fit {xs : List C} (h : Fits [.sl [.i, .i, .i, .i, .i, .i]] xs) : ∃ e : List Boat, xs = enc_BoatS e := by
  obtain ⟨c0, ys, rfl, h0, h⟩ := h.cons_inv
  obtain rfl := h.nil_inv
  obtain ⟨n0, rfl⟩ := h0.sl_inv Boat.enc fun _ h => Boat_fit h
  exact ⟨n0, rfl⟩
theorem Train_fit {xs : List C} (h : Fits [.b, .sl [.sl [.i, .i, .i, .i, .i, .i]]] xs) : ∃ e : Train, xs = e.enc := by
  obtain ⟨c0, ys, rfl, h0, h⟩ := h.cons_inv
  obtain ⟨c1, ys, rfl, h1, h⟩ := h.cons_inv
  obtain rfl := h.nil_inv
  obtain ⟨n0, rfl⟩ := h0.b_inv
  obtain ⟨n1, rfl⟩ := h1.sl_inv enc_BoatS fun _ h => BoatS_fit h
  exact ⟨⟨n0, n1⟩, rfl⟩
theorem Mover_fit {xs : List C} (h : Fits [.b, .sl [.sl [.i, .i, .i, .i, .i, .i]], .i] xs) : ∃ e : Mover, xs = e.enc := by
  obtain ⟨c0, ys, rfl, h0, h⟩ := h.cons_inv
  obtain ⟨c1, ys, rfl, h1, h⟩ := h.cons_inv
  obtain ⟨c2, ys, rfl, h2, h⟩ := h.cons_inv
  obtain rfl := h.nil_inv
  obtain ⟨n0, rfl⟩ := h0.b_inv
  obtain ⟨n1, rfl⟩ := h1.sl_inv enc_BoatS fun _ h => BoatS_fit h
  obtain ⟨n2, rfl⟩ := h2.i_inv
  exact ⟨⟨⟨n0, n1⟩, n2⟩, rfl⟩

theorem Point_fit {xs : List C} (h : Fits [.i, .i] xs) : ∃ e : Point, xs = e.enc := by
  obtain ⟨c0, ys, rfl, h0, h⟩ := h.cons_inv
  obtain ⟨c1, ys, rfl, h1, h⟩ := h.cons_inv
  obtain rfl := h.nil_inv
  obtain ⟨n0, rfl⟩ := h0.i_inv
  obtain ⟨n1, rfl⟩ := h1.i_inv
  exact ⟨⟨n0, n1⟩, rfl⟩
theorem Reach_fit {xs : List C} (h : Fits [.sl [.i, .i], .i, .sl [.i]] xs) : ∃ e : Reach, xs = e.enc := by
  obtain ⟨c0, ys, rfl, h0, h⟩ := h.cons_inv
  obtain ⟨c1, ys, rfl, h1, h⟩ := h.cons_inv
  obtain ⟨c2, ys, rfl, h2, h⟩ := h.cons_inv
  obtain rfl := h.nil_inv
  obtain ⟨n0, rfl⟩ := h0.sl_inv Point.enc fun _ h => Point_fit h
  obtain ⟨n1, rfl⟩ := h1.i_inv
  obtain ⟨n2, rfl⟩ := h2.sl_inv ienc fun _ h => ienc_fit h
  exact ⟨⟨n0, n1, n2⟩, rfl⟩

theorem Lock_fit {xs : List C} (h : Fits [.i, .i, .i, .i, .i, .i, .i, .i, .i, .sl [.b, .sl [.sl [.i, .i, .i, .i, .i, .i]]]] xs) : ∃ e : Lock, xs = e.enc := by
  obtain ⟨c0, ys, rfl, h0, h⟩ := h.cons_inv
  obtain ⟨c1, ys, rfl, h1, h⟩ := h.cons_inv
  obtain ⟨c2, ys, rfl, h2, h⟩ := h.cons_inv
  obtain ⟨c3, ys, rfl, h3, h⟩ := h.cons_inv
  obtain ⟨c4, ys, rfl, h4, h⟩ := h.cons_inv
  obtain ⟨c5, ys, rfl, h5, h⟩ := h.cons_inv
  obtain ⟨c6, ys, rfl, h6, h⟩ := h.cons_inv
  obtain ⟨c7, ys, rfl, h7, h⟩ := h.cons_inv
  obtain ⟨c8, ys, rfl, h8, h⟩ := h.cons_inv
  obtain ⟨c9, ys, rfl, h9, h⟩ := h.cons_inv
  obtain rfl := h.nil_inv
  obtain ⟨n0, rfl⟩ := h0.i_inv
  obtain ⟨n1, rfl⟩ := h1.i_inv
  obtain ⟨n2, rfl⟩ := h2.i_inv
  obtain ⟨n3, rfl⟩ := h3.i_inv
  obtain ⟨n4, rfl⟩ := h4.i_inv
  obtain ⟨n5, rfl⟩ := h5.i_inv
  obtain ⟨n6, rfl⟩ := h6.i_inv
  obtain ⟨n7, rfl⟩ := h7.i_inv
  obtain ⟨n8, rfl⟩ := h8.i_inv
  obtain ⟨n9, rfl⟩ := h9.sl_inv Train.enc fun _ h => Train_fit h
  exact ⟨⟨n0, n1, n2, n3, n4, n5, n6, n7, n8, n9⟩, rfl⟩
theorem Weir_fit {xs : List C} (h : Fits [.i, .i, .i, .i, .i] xs) : ∃ e : Weir, xs = e.enc := by
  obtain ⟨c0, ys, rfl, h0, h⟩ := h.cons_inv
  obtain ⟨c1, ys, rfl, h1, h⟩ := h.cons_inv
  obtain ⟨c2, ys, rfl, h2, h⟩ := h.cons_inv
  obtain ⟨c3, ys, rfl, h3, h⟩ := h.cons_inv
  obtain ⟨c4, ys, rfl, h4, h⟩ := h.cons_inv
  obtain rfl := h.nil_inv
  obtain ⟨n0, rfl⟩ := h0.i_inv
  obtain ⟨n1, rfl⟩ := h1.i_inv
  obtain ⟨n2, rfl⟩ := h2.i_inv
  obtain ⟨n3, rfl⟩ := h3.i_inv
  obtain ⟨n4, rfl⟩ := h4.i_inv
  exact ⟨⟨n0, n1, n2, n3, n4⟩, rfl⟩
theorem Rule_fit {xs : List C} (h : Fits [.i, .i, .i] xs) : ∃ e : Rule, xs = e.enc := by
  obtain ⟨c0, ys, rfl, h0, h⟩ := h.cons_inv
  obtain ⟨c1, ys, rfl, h1, h⟩ := h.cons_inv
  obtain ⟨c2, ys, rfl, h2, h⟩ := h.cons_inv
  obtain rfl := h.nil_inv
  obtain ⟨n0, rfl⟩ := h0.i_inv
  obtain ⟨n1, rfl⟩ := h1.i_inv
  obtain ⟨n2, rfl⟩ := h2.i_inv
  exact ⟨⟨n0, n1, n2⟩, rfl⟩
theorem Pause_fit {xs : List C} (h : Fits [.i, .i] xs) : ∃ e : Pause, xs = e.enc := by
  obtain ⟨c0, ys, rfl, h0, h⟩ := h.cons_inv
  obtain ⟨c1, ys, rfl, h1, h⟩ := h.cons_inv
  obtain rfl := h.nil_inv
  obtain ⟨n0, rfl⟩ := h0.i_inv
  obtain ⟨n1, rfl⟩ := h1.i_inv
  exact ⟨⟨n0, n1⟩, rfl⟩
theorem Turn_fit {xs : List C} (h : Fits [.b, .i] xs) : ∃ e : Turn, xs = e.enc := by
  obtain ⟨c0, ys, rfl, h0, h⟩ := h.cons_inv
  obtain ⟨c1, ys, rfl, h1, h⟩ := h.cons_inv
  obtain rfl := h.nil_inv
  obtain ⟨n0, rfl⟩ := h0.b_inv
  obtain ⟨n1, rfl⟩ := h1.i_inv
  exact ⟨⟨n0, n1⟩, rfl⟩
theorem Call_fit {xs : List C} (h : Fits [.b, .sl [.sl [.i, .i, .i, .i, .i, .i]], .i, .i] xs) : ∃ e : CallT, xs = e.enc := by
  obtain ⟨c0, ys, rfl, h0, h⟩ := h.cons_inv
  obtain ⟨c1, ys, rfl, h1, h⟩ := h.cons_inv
  obtain ⟨c2, ys, rfl, h2, h⟩ := h.cons_inv
  obtain ⟨c3, ys, rfl, h3, h⟩ := h.cons_inv
  obtain rfl := h.nil_inv
  obtain ⟨n0, rfl⟩ := h0.b_inv
  obtain ⟨n1, rfl⟩ := h1.sl_inv enc_BoatS fun _ h => BoatS_fit h
  obtain ⟨n2, rfl⟩ := h2.i_inv
  obtain ⟨n3, rfl⟩ := h3.i_inv
  exact ⟨⟨⟨n0, n1⟩, n2, n3⟩, rfl⟩
theorem Work_fit {xs : List C} (h : Fits [.i, .i, .i, .i, .i, .i, .i, .i, .i, .sl [.b, .sl [.sl [.i, .i, .i, .i, .i, .i]]], .i, .i, .i, .i, .i, .i, .i, .i, .sl [.i, .i], .b, .i, .sl [.b, .sl [.sl [.i, .i, .i, .i, .i, .i]], .i, .i]] xs) : ∃ e : Work, xs = e.enc := by
  obtain ⟨c0, ys, rfl, h0, h⟩ := h.cons_inv
  obtain ⟨c1, ys, rfl, h1, h⟩ := h.cons_inv
  obtain ⟨c2, ys, rfl, h2, h⟩ := h.cons_inv
  obtain ⟨c3, ys, rfl, h3, h⟩ := h.cons_inv
  obtain ⟨c4, ys, rfl, h4, h⟩ := h.cons_inv
  obtain ⟨c5, ys, rfl, h5, h⟩ := h.cons_inv
  obtain ⟨c6, ys, rfl, h6, h⟩ := h.cons_inv
  obtain ⟨c7, ys, rfl, h7, h⟩ := h.cons_inv
  obtain ⟨c8, ys, rfl, h8, h⟩ := h.cons_inv
  obtain ⟨c9, ys, rfl, h9, h⟩ := h.cons_inv
  obtain ⟨c10, ys, rfl, h10, h⟩ := h.cons_inv
  obtain ⟨c11, ys, rfl, h11, h⟩ := h.cons_inv
  obtain ⟨c12, ys, rfl, h12, h⟩ := h.cons_inv
  obtain ⟨c13, ys, rfl, h13, h⟩ := h.cons_inv
  obtain ⟨c14, ys, rfl, h14, h⟩ := h.cons_inv
  obtain ⟨c15, ys, rfl, h15, h⟩ := h.cons_inv
  obtain ⟨c16, ys, rfl, h16, h⟩ := h.cons_inv
  obtain ⟨c17, ys, rfl, h17, h⟩ := h.cons_inv
  obtain ⟨c18, ys, rfl, h18, h⟩ := h.cons_inv
  obtain ⟨c19, ys, rfl, h19, h⟩ := h.cons_inv
  obtain ⟨c20, ys, rfl, h20, h⟩ := h.cons_inv
  obtain ⟨c21, ys, rfl, h21, h⟩ := h.cons_inv
  obtain rfl := h.nil_inv
  obtain ⟨n0, rfl⟩ := h0.i_inv
  obtain ⟨n1, rfl⟩ := h1.i_inv
  obtain ⟨n2, rfl⟩ := h2.i_inv
  obtain ⟨n3, rfl⟩ := h3.i_inv
  obtain ⟨n4, rfl⟩ := h4.i_inv
  obtain ⟨n5, rfl⟩ := h5.i_inv
  obtain ⟨n6, rfl⟩ := h6.i_inv
  obtain ⟨n7, rfl⟩ := h7.i_inv
  obtain ⟨n8, rfl⟩ := h8.i_inv
  obtain ⟨n9, rfl⟩ := h9.sl_inv Train.enc fun _ h => Train_fit h
  obtain ⟨n10, rfl⟩ := h10.i_inv
  obtain ⟨n11, rfl⟩ := h11.i_inv
  obtain ⟨n12, rfl⟩ := h12.i_inv
  obtain ⟨n13, rfl⟩ := h13.i_inv
  obtain ⟨n14, rfl⟩ := h14.i_inv
  obtain ⟨n15, rfl⟩ := h15.i_inv
  obtain ⟨n16, rfl⟩ := h16.i_inv
  obtain ⟨n17, rfl⟩ := h17.i_inv
  obtain ⟨n18, rfl⟩ := h18.sl_inv Pause.enc fun _ h => Pause_fit h
  obtain ⟨n19, rfl⟩ := h19.b_inv
  obtain ⟨n20, rfl⟩ := h20.i_inv
  obtain ⟨n21, rfl⟩ := h21.sl_inv CallT.enc fun _ h => Call_fit h
  exact ⟨⟨⟨n0, n1, n2, n3, n4, n5, n6, n7, n8, n9⟩, ⟨n10, n11, n12, n13, n14⟩, ⟨n15, n16, n17⟩, n18, ⟨n19, n20⟩, n21⟩, rfl⟩
theorem MoverS_fit {xs : List C} (h : Fits [.sl [.b, .sl [.sl [.i, .i, .i, .i, .i, .i]], .i]] xs) : ∃ e : List Mover, xs = enc_MoverS e := by
  obtain ⟨c0, ys, rfl, h0, h⟩ := h.cons_inv
  obtain rfl := h.nil_inv
  obtain ⟨n0, rfl⟩ := h0.sl_inv Mover.enc fun _ h => Mover_fit h
  exact ⟨n0, rfl⟩
theorem Passing_fit {xs : List C} (h : Fits [.i, .i, .b, .sl [.sl [.i, .i, .i, .i, .i, .i]]] xs) : ∃ e : Passing, xs = e.enc := by
  obtain ⟨c0, ys, rfl, h0, h⟩ := h.cons_inv
  obtain ⟨c1, ys, rfl, h1, h⟩ := h.cons_inv
  obtain ⟨c2, ys, rfl, h2, h⟩ := h.cons_inv
  obtain ⟨c3, ys, rfl, h3, h⟩ := h.cons_inv
  obtain rfl := h.nil_inv
  obtain ⟨n0, rfl⟩ := h0.i_inv
  obtain ⟨n1, rfl⟩ := h1.i_inv
  obtain ⟨n2, rfl⟩ := h2.b_inv
  obtain ⟨n3, rfl⟩ := h3.sl_inv enc_BoatS fun _ h => BoatS_fit h
  exact ⟨⟨n0, n1, ⟨n2, n3⟩⟩, rfl⟩
theorem Waterway_fit {xs : List C} (h : Fits [.i, .sl [.sl [.i, .i], .i, .sl [.i]], .sl [.i, .i], .sl [.i, .i, .i, .i, .i, .i, .i, .i, .i, .sl [.b, .sl [.sl [.i, .i, .i, .i, .i, .i]]], .i, .i, .i, .i, .i, .i, .i, .i, .sl [.i, .i], .b, .i, .sl [.b, .sl [.sl [.i, .i, .i, .i, .i, .i]], .i, .i]], .sl [.sl [.b, .sl [.sl [.i, .i, .i, .i, .i, .i]], .i]], .sl [.b, .sl [.sl [.i, .i, .i, .i, .i, .i]]], .sl [.i], .i, .i, .sl [.i], .sl [.i], .sl [.i, .i, .i, .i, .i], .sl [.i, .i, .b, .sl [.sl [.i, .i, .i, .i, .i, .i]]], .i, .i, .i] xs) : ∃ e : Waterway, xs = e.enc := by
  obtain ⟨c0, ys, rfl, h0, h⟩ := h.cons_inv
  obtain ⟨c1, ys, rfl, h1, h⟩ := h.cons_inv
  obtain ⟨c2, ys, rfl, h2, h⟩ := h.cons_inv
  obtain ⟨c3, ys, rfl, h3, h⟩ := h.cons_inv
  obtain ⟨c4, ys, rfl, h4, h⟩ := h.cons_inv
  obtain ⟨c5, ys, rfl, h5, h⟩ := h.cons_inv
  obtain ⟨c6, ys, rfl, h6, h⟩ := h.cons_inv
  obtain ⟨c7, ys, rfl, h7, h⟩ := h.cons_inv
  obtain ⟨c8, ys, rfl, h8, h⟩ := h.cons_inv
  obtain ⟨c9, ys, rfl, h9, h⟩ := h.cons_inv
  obtain ⟨c10, ys, rfl, h10, h⟩ := h.cons_inv
  obtain ⟨c11, ys, rfl, h11, h⟩ := h.cons_inv
  obtain ⟨c12, ys, rfl, h12, h⟩ := h.cons_inv
  obtain ⟨c13, ys, rfl, h13, h⟩ := h.cons_inv
  obtain ⟨c14, ys, rfl, h14, h⟩ := h.cons_inv
  obtain ⟨c15, ys, rfl, h15, h⟩ := h.cons_inv
  obtain rfl := h.nil_inv
  obtain ⟨n0, rfl⟩ := h0.i_inv
  obtain ⟨n1, rfl⟩ := h1.sl_inv Reach.enc fun _ h => Reach_fit h
  obtain ⟨n2, rfl⟩ := h2.sl_inv Way.enc fun _ h => Way_fit h
  obtain ⟨n3, rfl⟩ := h3.sl_inv Work.enc fun _ h => Work_fit h
  obtain ⟨n4, rfl⟩ := h4.sl_inv enc_MoverS fun _ h => MoverS_fit h
  obtain ⟨n5, rfl⟩ := h5.sl_inv Train.enc fun _ h => Train_fit h
  obtain ⟨n6, rfl⟩ := h6.sl_inv ienc fun _ h => ienc_fit h
  obtain ⟨n7, rfl⟩ := h7.i_inv
  obtain ⟨n8, rfl⟩ := h8.i_inv
  obtain ⟨n9, rfl⟩ := h9.sl_inv ienc fun _ h => ienc_fit h
  obtain ⟨n10, rfl⟩ := h10.sl_inv ienc fun _ h => ienc_fit h
  obtain ⟨n11, rfl⟩ := h11.sl_inv Entry.enc fun _ h => Entry_fit h
  obtain ⟨n12, rfl⟩ := h12.sl_inv Passing.enc fun _ h => Passing_fit h
  obtain ⟨n13, rfl⟩ := h13.i_inv
  obtain ⟨n14, rfl⟩ := h14.i_inv
  obtain ⟨n15, rfl⟩ := h15.i_inv
  exact ⟨⟨n0, n1, n2, n3, n4, n5, n6, ⟨n7, n8, n9, n10⟩, n11, n12, n13, n14, n15⟩, rfl⟩

end Go.Proofs.YtpcopekamgapaaaGreat
