/- Contracts of functions of this seat: what each answers, as plain Lean. -/
import Derived.Test.YtfmgadchjiplmaaMT30
import Derived.Test.YtfmgadchjiplmaaMT8
import Derived.Test.YtfmgadchjiplmaaMT14
set_option linter.all false
namespace Go.Proofs.Ytfmgadchjiplmaa
open Go.RowKit

/-! Tariffs and trains of the caller's own; their marks; the law of toll entries. -/
theorem markTrain2_c (e : Train) (k : Int) (h0 : 0 ≤ k) (h1 : k + cnt nB e.Rows ≤ 8000000000000000000) :
    InF Try.prog n_laws_markTrain (.agg ([C.b e.Up, ct 1 (e.Rows.map eo_BoatS)].map .c)) (.agg ([C.b e.Up, ct 1 (seqM fB nB k e.Rows)].map .c)) [.c (.i k)] (.c (.i (k + cnt nB e.Rows))) := by
  obtain ⟨u, xs⟩ := e
  have m1 := markBoatSS_c xs k h0 h1
  rcases Nat.eq_zero_or_pos xs.length with hx | hx
  · have : xs = [] := List.length_eq_zero_iff.1 hx
    subst this
    refine in_of h_laws_markTrain (by simp) (by simp) rfl fun hwf => ?_
    simp -dsimp -implicitDefEqProofs [c_laws_markTrain]
    refine call_in1 (up := none) m1 (by simp) rfl rfl (ioC_c rfl) ?_
    simp -dsimp -implicitDefEqProofs [seqM, cnt]
  · have c1 : ct 1 (xs.map eo_BoatS) = .ot 1 (xs.map eo_BoatS) := ct_pos (by simpa using hx)
    have c2 : ct 1 (seqM fB nB k xs) = .ot 1 (seqM fB nB k xs) := ct_pos (by rw [seqM_len]; exact hx)
    refine in_of h_laws_markTrain (by simp) (by simp [c1]) rfl fun hwf => ?_
    simp -dsimp -implicitDefEqProofs [c_laws_markTrain, c1]
    refine call_in1 (up := some (20000, .tr 1 1 (seqM fB nB k xs))) m1 (by simp) rfl rfl (ioC_tr (rows := xs.map eo_BoatS) (by simp) rfl rfl rfl (by simp) (by simp [seqM_len]) rfl rfl) ?_
    have hts : (seqM fB nB k xs).take xs.length = seqM fB nB k xs := List.take_of_length_le (by rw [seqM_len]; exact Nat.le_refl _)
    simp -dsimp -implicitDefEqProofs [c2, hts]
theorem cnt2_le {α : Type} {n : α → Nat} {B : Nat} : ∀ {l : List α}, (∀ x ∈ l, n x ≤ B) → cnt n l ≤ l.length * B
  | [], _ => by simp [cnt]
  | x :: l, h => by
    have h1 := cnt2_le (l := l) fun y hy => h y (by simp [hy])
    have h2 := h x (by simp)
    simp only [cnt, List.map_cons, List.sum_cons, List.length_cons, Nat.add_mul, Nat.one_mul] at h1 ⊢; omega
theorem cntB2_le {l : List (List Boat)} (h : small_BoatSS l) : cnt nB l ≤ 6597069766656 := by
  have h1 := cnt2_le (n := nB) (B := 6291456) (l := l) fun x hx => by have := (h.2 x hx).1; unfold nB; omega
  have h2 := Nat.mul_le_mul_right 6291456 h.1
  omega
@[simp] def Tariff.oenc (e : Tariff) : List C := [.i e.Base, .i e.PerArea, .ow 1 (e.PerClass.map ienc), .ow 1 (e.Weights.map ienc)]
theorem toTariff_o (e : Tariff) (hl : e.small) : OwnF Try.prog n_laws_toTariff [.agg (e.enc.map .c)] (.agg (e.oenc.map .c)) := by
  refine own_of h_laws_toTariff (by simp) fun hwf => ?_
  simp -dsimp -implicitDefEqProofs [c_laws_toTariff]
  first
    | refine call_own (toIntS_o e.PerClass hl.1) (by simp ) (by simp [AV.closed, AV.closed1, C.closed]) (by simp [freshO]) ?_
    | refine callE_own (toIntS_o e.PerClass hl.1) (by simp ) (by simp [AV.closed, AV.closed1, C.closed]) (by simp [freshO]) ?_
  simp -dsimp -implicitDefEqProofs [take_full]
  first
    | refine call_own (toIntS_o e.Weights hl.2) (by simp ) (by simp [AV.closed, AV.closed1, C.closed]) (by simp [freshO]) ?_
    | refine callE_own (toIntS_o e.Weights hl.2) (by simp ) (by simp [AV.closed, AV.closed1, C.closed]) (by simp [freshO]) ?_
  simp -dsimp -implicitDefEqProofs [take_full]
def nT (e : Tariff) : Int := e.PerClass.length + e.Weights.length
def markTariff_x (e : Tariff) (k : Int) : List C := [.i e.Base, .i e.PerArea, cw 1 (marked ienc 1 [] k e.PerClass.length), cw 1 (marked ienc 1 [] (k + e.PerClass.length) e.Weights.length)]
def Tariff.cenc (e : Tariff) : List C := [.i e.Base, .i e.PerArea, cw 1 (e.PerClass.map ienc), cw 1 (e.Weights.map ienc)]
theorem markTariff_c (e : Tariff) (k : Int) (h0 : 0 ≤ k) (h1 : k + nT e ≤ 8000000000000000000) :
    InF Try.prog n_laws_markTariff (.agg (e.cenc.map .c)) (.agg ((markTariff_x e k).map .c)) [.c (.i k)] (.c (.i (k + nT e))) := by
  obtain ⟨ba, pa, p, q⟩ := e
  simp only [nT] at h1
  have hp : p.length = 0 ∨ 0 < p.length := by omega
  have hq : q.length = 0 ∨ 0 < q.length := by omega
  rcases hp with hp | hp <;> rcases hq with hq | hq
  · skip
    have : p = [] := List.length_eq_zero_iff.1 hp
    subst this
    have : q = [] := List.length_eq_zero_iff.1 hq
    subst this
    have m1 := markIntS_c [] k h0 (by first | omega | (simp at h1; omega) | (simp at h1 ⊢; omega))
    have m2 := markIntS_c [] k (by omega) (by first | omega | (simp at h1; omega) | (simp at h1 ⊢; omega))
    refine in_of h_laws_markTariff (by simp) (by simp [Tariff.cenc, marked]) rfl fun hwf => ?_
    simp -dsimp -implicitDefEqProofs [c_laws_markTariff, Tariff.cenc]
    refine call_in1 (up := none) m1 (by simp) rfl rfl (ioC_c rfl) ?_
    simp -dsimp -implicitDefEqProofs
    refine call_in1 (up := none) m2 (by simp) rfl rfl (ioC_c rfl) ?_
    simp -dsimp -implicitDefEqProofs [markTariff_x, nT, marked_n, take_marked]
    first | rfl | omega
  · skip
    have : p = [] := List.length_eq_zero_iff.1 hp
    subst this
    have m1 := markIntS_c [] k h0 (by first | omega | (simp at h1; omega) | (simp at h1 ⊢; omega))
    have m2 := markIntS_c q k (by omega) (by first | omega | (simp at h1; omega) | (simp at h1 ⊢; omega))
    have d0 := cw_pos (k := 1) (rows := q.map ienc) (by simpa using hq)
    have d1 := cw_pos (k := 1) (rows := marked ienc 1 [] k q.length) (by rw [marked_n]; exact hq)
    refine in_of h_laws_markTariff (by simp) (by simp [Tariff.cenc, marked, d0, d1]) rfl fun hwf => ?_
    simp -dsimp -implicitDefEqProofs [c_laws_markTariff, Tariff.cenc, d0, d1]
    refine call_in1 (up := none) m1 (by simp) rfl rfl (ioC_c rfl) ?_
    simp -dsimp -implicitDefEqProofs
    refine call_in1 (up := some (40000, .row 1 (marked ienc 1 [] k q.length))) m2 (by simp) rfl rfl (ioC_row (rows := q.map ienc) (by simp) rfl rfl (by simp) (by simp [marked_n]) rfl rfl) ?_
    simp -dsimp -implicitDefEqProofs [markTariff_x, nT, marked_n, take_marked, d0, d1]
    first | rfl | omega
  · skip
    have : q = [] := List.length_eq_zero_iff.1 hq
    subst this
    have m1 := markIntS_c p k h0 (by first | omega | (simp at h1; omega) | (simp at h1 ⊢; omega))
    have m2 := markIntS_c [] (k + p.length) (by omega) (by first | omega | (simp at h1; omega) | (simp at h1 ⊢; omega))
    have c0 := cw_pos (k := 1) (rows := p.map ienc) (by simpa using hp)
    have c1 := cw_pos (k := 1) (rows := marked ienc 1 [] k p.length) (by rw [marked_n]; exact hp)
    refine in_of h_laws_markTariff (by simp) (by simp [Tariff.cenc, marked, c0, c1]) rfl fun hwf => ?_
    simp -dsimp -implicitDefEqProofs [c_laws_markTariff, Tariff.cenc, c0, c1]
    refine call_in1 (up := some (30000, .row 1 (marked ienc 1 [] k p.length))) m1 (by simp) rfl rfl (ioC_row (rows := p.map ienc) (by simp) rfl rfl (by simp) (by simp [marked_n]) rfl rfl) ?_
    simp -dsimp -implicitDefEqProofs
    refine call_in1 (up := none) m2 (by simp) rfl rfl (ioC_c rfl) ?_
    simp -dsimp -implicitDefEqProofs [markTariff_x, nT, marked_n, take_marked, c0, c1]
    first | rfl | omega
  · skip
    have m1 := markIntS_c p k h0 (by first | omega | (simp at h1; omega) | (simp at h1 ⊢; omega))
    have m2 := markIntS_c q (k + p.length) (by omega) (by first | omega | (simp at h1; omega) | (simp at h1 ⊢; omega))
    have c0 := cw_pos (k := 1) (rows := p.map ienc) (by simpa using hp)
    have c1 := cw_pos (k := 1) (rows := marked ienc 1 [] k p.length) (by rw [marked_n]; exact hp)
    have d0 := cw_pos (k := 1) (rows := q.map ienc) (by simpa using hq)
    have d1 := cw_pos (k := 1) (rows := marked ienc 1 [] (k + p.length) q.length) (by rw [marked_n]; exact hq)
    refine in_of h_laws_markTariff (by simp) (by simp [Tariff.cenc, marked, c0, c1, d0, d1]) rfl fun hwf => ?_
    simp -dsimp -implicitDefEqProofs [c_laws_markTariff, Tariff.cenc, c0, c1, d0, d1]
    refine call_in1 (up := some (30000, .row 1 (marked ienc 1 [] k p.length))) m1 (by simp) rfl rfl (ioC_row (rows := p.map ienc) (by simp) rfl rfl (by simp) (by simp [marked_n]) rfl rfl) ?_
    simp -dsimp -implicitDefEqProofs
    refine call_in1 (up := some (40000, .row 1 (marked ienc 1 [] (k + p.length) q.length))) m2 (by simp) rfl rfl (ioC_row (rows := q.map ienc) (by simp) rfl rfl (by simp) (by simp [marked_n]) rfl rfl) ?_
    simp -dsimp -implicitDefEqProofs [markTariff_x, nT, marked_n, take_marked, c0, c1, d0, d1]
    first | rfl | omega
theorem FnExactTollEntries_c (x0 : Tariff) (x1 : Train) (x2 : Int) : PureF Try.prog n_laws_FnExactTollEntries [.agg (x0.enc.map .c), .agg (x1.enc.map .c), .c (.i x2)] (.c (.b true)) := by
  refine pure_of h_laws_FnExactTollEntries (by simp) fun hwf => ?_
  simp -dsimp -implicitDefEqProofs [c_laws_FnExactTollEntries]
  first
    | refine call_lend (sz_Tariff_c x0 1048576 (by omega) (by omega)) (by simp) rfl ?_
    | refine call_pure (sz_Tariff_c x0 1048576 (by omega) (by omega)) (by simp) rfl ?_
    | refine ⟨_, _, sz_Tariff_c x0 1048576 (by omega) (by omega), by simp, .inr rfl, ?_⟩
    | refine ⟨_, _, sz_Tariff_c x0 1048576 (by omega) (by omega), by simp, .inl rfl, ?_⟩
    | refine callE_pure (sz_Tariff_c x0 1048576 (by omega) (by omega)) (by simp) (.inr rfl) ?_
    | refine callE_pure (sz_Tariff_c x0 1048576 (by omega) (by omega)) (by simp) (.inl rfl) ?_
  simp -dsimp -implicitDefEqProofs
  intro hsz0
  have hl0 := sz_small sz_Tariff_ok (by omega) (by omega) hsz0
  have hle0 := sz_le sz_Tariff_ok x0 (by omega) (by omega) hsz0
  first
    | refine call_lend (sz_Train_c x1 _ hsz0 hle0) (by simp) rfl ?_
    | refine call_pure (sz_Train_c x1 _ hsz0 hle0) (by simp) rfl ?_
    | refine ⟨_, _, sz_Train_c x1 _ hsz0 hle0, by simp, .inr rfl, ?_⟩
    | refine ⟨_, _, sz_Train_c x1 _ hsz0 hle0, by simp, .inl rfl, ?_⟩
    | refine callE_pure (sz_Train_c x1 _ hsz0 hle0) (by simp) (.inr rfl) ?_
    | refine callE_pure (sz_Train_c x1 _ hsz0 hle0) (by simp) (.inl rfl) ?_
  simp -dsimp -implicitDefEqProofs
  intro hsz1
  have hl1 := sz_small sz_Train_ok hsz0 hle0 hsz1
  first
    | refine call_lend (toTariff_c x0 hl0) (by simp) rfl ?_
    | refine call_pure (toTariff_c x0 hl0) (by simp) rfl ?_
    | refine ⟨_, _, toTariff_c x0 hl0, by simp, .inr rfl, ?_⟩
    | refine ⟨_, _, toTariff_c x0 hl0, by simp, .inl rfl, ?_⟩
    | refine callE_pure (toTariff_c x0 hl0) (by simp) (.inr rfl) ?_
    | refine callE_pure (toTariff_c x0 hl0) (by simp) (.inl rfl) ?_
  simp -dsimp -implicitDefEqProofs
  first
    | refine call_lend (toTrain_c x1 hl1) (by simp) rfl ?_
    | refine call_pure (toTrain_c x1 hl1) (by simp) rfl ?_
    | refine ⟨_, _, toTrain_c x1 hl1, by simp, .inr rfl, ?_⟩
    | refine ⟨_, _, toTrain_c x1 hl1, by simp, .inl rfl, ?_⟩
    | refine callE_pure (toTrain_c x1 hl1) (by simp) (.inr rfl) ?_
    | refine callE_pure (toTrain_c x1 hl1) (by simp) (.inl rfl) ?_
  simp -dsimp -implicitDefEqProofs
  first
    | refine call_lend (TollEntries_spec x0 x1 x2 hl0 hl1) (by simp) rfl ?_
    | refine call_pure (TollEntries_spec x0 x1 x2 hl0 hl1) (by simp) rfl ?_
    | refine ⟨_, _, TollEntries_spec x0 x1 x2 hl0 hl1, by simp, .inr rfl, ?_⟩
    | refine ⟨_, _, TollEntries_spec x0 x1 x2 hl0 hl1, by simp, .inl rfl, ?_⟩
    | refine callE_pure (TollEntries_spec x0 x1 x2 hl0 hl1) (by simp) (.inr rfl) ?_
    | refine callE_pure (TollEntries_spec x0 x1 x2 hl0 hl1) (by simp) (.inl rfl) ?_
  have hI := TollEntries_implP x0 x1 x2 hl1
  have hO := TollEntries_impl x0 x1 x2 hl1
  have hrl := TollEntries_len x0 x1 x2
  generalize TollEntries x0 x1 x2 = r at *
  simp -dsimp -implicitDefEqProofs
  first
    | refine call_own (toTariff_o x0 hl0) (by simp ) (by simp [AV.closed, AV.closed1, C.closed]) (by simp [freshO]) ?_
    | refine callE_own (toTariff_o x0 hl0) (by simp ) (by simp [AV.closed, AV.closed1, C.closed]) (by simp [freshO]) ?_
  simp -dsimp -implicitDefEqProofs
  refine call_own (toTrain_o x1 hl1) (by simp) (by simp [AV.closed, AV.closed1, C.closed, eo_BoatS]) (by simp [freshO]) ?_
  simp -dsimp -implicitDefEqProofs
  first
    | refine call_own (hO) (by simp [take_full, shrs_map eo_BoatS_shr]) (by simp [AV.closed, AV.closed1, C.closed]) (by simp [freshO]) ?_
    | refine callE_own (hO) (by simp [take_full, shrs_map eo_BoatS_shr]) (by simp [AV.closed, AV.closed1, C.closed]) (by simp [freshO]) ?_
  simp -dsimp -implicitDefEqProofs
  first
    | refine call_lend (eqEntryS_c r r) (by simp [take_full]) rfl ?_
    | refine call_pure (eqEntryS_c r r) (by simp [take_full]) rfl ?_
    | refine ⟨_, _, eqEntryS_c r r, by simp [take_full], .inr rfl, ?_⟩
    | refine ⟨_, _, eqEntryS_c r r, by simp [take_full], .inl rfl, ?_⟩
    | refine callE_pure (eqEntryS_c r r) (by simp [take_full]) (.inr rfl) ?_
    | refine callE_pure (eqEntryS_c r r) (by simp [take_full]) (.inl rfl) ?_
  simp -dsimp -implicitDefEqProofs
  first
    | refine call_lend (toTariff_c x0 hl0) (by simp) rfl ?_
    | refine call_pure (toTariff_c x0 hl0) (by simp) rfl ?_
    | refine ⟨_, _, toTariff_c x0 hl0, by simp, .inr rfl, ?_⟩
    | refine ⟨_, _, toTariff_c x0 hl0, by simp, .inl rfl, ?_⟩
    | refine callE_pure (toTariff_c x0 hl0) (by simp) (.inr rfl) ?_
    | refine callE_pure (toTariff_c x0 hl0) (by simp) (.inl rfl) ?_
  simp -dsimp -implicitDefEqProofs
  first
    | refine call_lend (eqTariff_c x0 x0) (by simp [take_full]) rfl ?_
    | refine call_pure (eqTariff_c x0 x0) (by simp [take_full]) rfl ?_
    | refine ⟨_, _, eqTariff_c x0 x0, by simp [take_full], .inr rfl, ?_⟩
    | refine ⟨_, _, eqTariff_c x0 x0, by simp [take_full], .inl rfl, ?_⟩
    | refine callE_pure (eqTariff_c x0 x0) (by simp [take_full]) (.inr rfl) ?_
    | refine callE_pure (eqTariff_c x0 x0) (by simp [take_full]) (.inl rfl) ?_
  simp -dsimp -implicitDefEqProofs
  first
    | refine call_lend (toTrain_c x1 hl1) (by simp) rfl ?_
    | refine call_pure (toTrain_c x1 hl1) (by simp) rfl ?_
    | refine ⟨_, _, toTrain_c x1 hl1, by simp, .inr rfl, ?_⟩
    | refine ⟨_, _, toTrain_c x1 hl1, by simp, .inl rfl, ?_⟩
    | refine callE_pure (toTrain_c x1 hl1) (by simp) (.inr rfl) ?_
    | refine callE_pure (toTrain_c x1 hl1) (by simp) (.inl rfl) ?_
  simp -dsimp -implicitDefEqProofs
  first
    | refine call_lend (eqTrain_c x1 x1) (by simp [take_full, shrs_map eo_BoatS_shr]) rfl ?_
    | refine call_pure (eqTrain_c x1 x1) (by simp [take_full, shrs_map eo_BoatS_shr]) rfl ?_
    | refine ⟨_, _, eqTrain_c x1 x1, by simp [take_full, shrs_map eo_BoatS_shr], .inr rfl, ?_⟩
    | refine ⟨_, _, eqTrain_c x1 x1, by simp [take_full, shrs_map eo_BoatS_shr], .inl rfl, ?_⟩
    | refine callE_pure (eqTrain_c x1 x1) (by simp [take_full, shrs_map eo_BoatS_shr]) (.inr rfl) ?_
    | refine callE_pure (eqTrain_c x1 x1) (by simp [take_full, shrs_map eo_BoatS_shr]) (.inl rfl) ?_
  simp -dsimp -implicitDefEqProofs
  have hM := cntB2_le hl1
  have hp0 := hl0.1
  have hp1 := hl0.2
  refine call_inA (ups := [none, none, some (30033, .row 1 (marked ienc 1 [] 1 x0.PerClass.length)), some (40033, .row 1 (marked ienc 1 [] (1 + x0.PerClass.length) x0.Weights.length))]) (markTariff_c x0 1 (by omega) (by unfold nT; omega)) (by simp) rfl rfl
    ⟨ioC_c rfl, ioC_c rfl, ioC_row (rows := x0.PerClass.map ienc) (by simp) rfl rfl (by simp) (by simp [marked_n]) rfl rfl, ioC_row (rows := x0.Weights.map ienc) (by simp) rfl rfl (by simp) (by simp [marked_n]) rfl rfl, trivial⟩ (by simp [upIds]) ?_
  simp -dsimp -implicitDefEqProofs
  have hnT : 0 ≤ nT x0 ∧ nT x0 ≤ 2097152 := by unfold nT; omega
  refine call_inA (ups := [none, some (20035, .tr 1 1 (seqM fB nB (1 + nT x0) x1.Rows))]) (markTrain2_c x1 (1 + nT x0) (by omega) (by omega)) (by simp) rfl rfl
    ⟨ioC_c rfl, ioC_tr (rows := x1.Rows.map eo_BoatS) (by simp) rfl rfl rfl (by simp) (by simp [seqM_len]) rfl rfl, trivial⟩ (by simp [upIds]) ?_
  have n1 : (1 + nT x0 + (cnt nB x1.Rows : Int) < 0) = False := by simp; omega
  simp -dsimp -implicitDefEqProofs [n1]
  first
    | refine call_lend (eqEntryS_c r r) (by simp [take_full]) rfl ?_
    | refine call_pure (eqEntryS_c r r) (by simp [take_full]) rfl ?_
    | refine ⟨_, _, eqEntryS_c r r, by simp [take_full], .inr rfl, ?_⟩
    | refine ⟨_, _, eqEntryS_c r r, by simp [take_full], .inl rfl, ?_⟩
    | refine callE_pure (eqEntryS_c r r) (by simp [take_full]) (.inr rfl) ?_
    | refine callE_pure (eqEntryS_c r r) (by simp [take_full]) (.inl rfl) ?_
  simp -dsimp -implicitDefEqProofs
  refine call_in1 (up := some (39, .row 5 (marked mkEn 5 [] 1 r.length))) (markEntryS_c r 1 (by omega) (by omega)) (by simp) rfl rfl (ioC_row (rows := r.map Entry.enc) (by simp) rfl rfl (by simp) (by simp [marked_n]) rfl rfl) ?_
  simp -dsimp -implicitDefEqProofs
  first
    | refine call_lend (heldEntryS_c r.length 1 (by omega) (by omega)) (by simp [take_marked]) rfl ?_
    | refine call_pure (heldEntryS_c r.length 1 (by omega) (by omega)) (by simp [take_marked]) rfl ?_
    | refine ⟨_, _, heldEntryS_c r.length 1 (by omega) (by omega), by simp [take_marked], .inr rfl, ?_⟩
    | refine ⟨_, _, heldEntryS_c r.length 1 (by omega) (by omega), by simp [take_marked], .inl rfl, ?_⟩
    | refine callE_pure (heldEntryS_c r.length 1 (by omega) (by omega)) (by simp [take_marked]) (.inr rfl) ?_
    | refine callE_pure (heldEntryS_c r.length 1 (by omega) (by omega)) (by simp [take_marked]) (.inl rfl) ?_
  have n2 : (1 + 5 * (r.length : Int) < 0) = False := by simp; omega
  simp -dsimp -implicitDefEqProofs [n2]
  first
    | refine call_lend (toTariff_c x0 hl0) (by simp) rfl ?_
    | refine call_pure (toTariff_c x0 hl0) (by simp) rfl ?_
    | refine ⟨_, _, toTariff_c x0 hl0, by simp, .inr rfl, ?_⟩
    | refine ⟨_, _, toTariff_c x0 hl0, by simp, .inl rfl, ?_⟩
    | refine callE_pure (toTariff_c x0 hl0) (by simp) (.inr rfl) ?_
    | refine callE_pure (toTariff_c x0 hl0) (by simp) (.inl rfl) ?_
  simp -dsimp -implicitDefEqProofs
  first
    | refine call_lend (toTrain_c x1 hl1) (by simp) rfl ?_
    | refine call_pure (toTrain_c x1 hl1) (by simp) rfl ?_
    | refine ⟨_, _, toTrain_c x1 hl1, by simp, .inr rfl, ?_⟩
    | refine ⟨_, _, toTrain_c x1 hl1, by simp, .inl rfl, ?_⟩
    | refine callE_pure (toTrain_c x1 hl1) (by simp) (.inr rfl) ?_
    | refine callE_pure (toTrain_c x1 hl1) (by simp) (.inl rfl) ?_
  simp -dsimp -implicitDefEqProofs
  first
    | refine call_lend (hI) (by simp) rfl ?_
    | refine call_pure (hI) (by simp) rfl ?_
    | refine ⟨_, _, hI, by simp, .inr rfl, ?_⟩
    | refine ⟨_, _, hI, by simp, .inl rfl, ?_⟩
    | refine callE_pure (hI) (by simp) (.inr rfl) ?_
    | refine callE_pure (hI) (by simp) (.inl rfl) ?_
  simp -dsimp -implicitDefEqProofs
  first
    | refine call_lend (eqEntryS_c r r) (by simp [take_full]) rfl ?_
    | refine call_pure (eqEntryS_c r r) (by simp [take_full]) rfl ?_
    | refine ⟨_, _, eqEntryS_c r r, by simp [take_full], .inr rfl, ?_⟩
    | refine ⟨_, _, eqEntryS_c r r, by simp [take_full], .inl rfl, ?_⟩
    | refine callE_pure (eqEntryS_c r r) (by simp [take_full]) (.inr rfl) ?_
    | refine callE_pure (eqEntryS_c r r) (by simp [take_full]) (.inl rfl) ?_
  simp -dsimp -implicitDefEqProofs
  first
    | refine call_lend (heldEntryS_c r.length 1 (by omega) (by omega)) (by simp [take_marked]) rfl ?_
    | refine call_pure (heldEntryS_c r.length 1 (by omega) (by omega)) (by simp [take_marked]) rfl ?_
    | refine ⟨_, _, heldEntryS_c r.length 1 (by omega) (by omega), by simp [take_marked], .inr rfl, ?_⟩
    | refine ⟨_, _, heldEntryS_c r.length 1 (by omega) (by omega), by simp [take_marked], .inl rfl, ?_⟩
    | refine callE_pure (heldEntryS_c r.length 1 (by omega) (by omega)) (by simp [take_marked]) (.inr rfl) ?_
    | refine callE_pure (heldEntryS_c r.length 1 (by omega) (by omega)) (by simp [take_marked]) (.inl rfl) ?_
  simp -dsimp -implicitDefEqProofs [n2]

end Go.Proofs.Ytfmgadchjiplmaa
