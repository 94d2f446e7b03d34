/- Contracts of functions of this seat: what each answers, as plain Lean. -/
import Derived.Test.YtfmgadchjiplmaaMT4
set_option linter.all false
namespace Go.Proofs.Ytfmgadchjiplmaa
open Go.RowKit

def sz_Tariff (e : Tariff) (l : Int) : Int := andSz (sz_IntS e.PerClass l) fun l => andSz (sz_IntS e.Weights l) fun l => l
theorem sz_Tariff_ok : SzOk sz_Tariff Tariff.small := by
  intro e l h0 h1
  unfold sz_Tariff
  rcases sz_IntS_ok e.PerClass _ h0 h1 with e0 | ⟨a0, b0, s0⟩
  · exact .inl (andSz_neg (by omega))
  rw [andSz_pos a0]
  rcases sz_IntS_ok e.Weights _ a0 (by omega) with e1 | ⟨a1, b1, s1⟩
  · exact .inl (andSz_neg (by omega))
  rw [andSz_pos a1]
  exact .inr ⟨a1, by omega, s0.1, s1.1⟩
theorem sz_Tariff_c (e : Tariff) (l : Int) (h0 : 0 ≤ l) (h1 : l ≤ 1048576) : PureF Try.prog n_laws_szTariff [.agg (e.enc.map .c), .c (.i l)] (.c (.i (sz_Tariff e l))) := by
  refine pure_of h_laws_szTariff (by simp) fun hwf => ?_
  simp -dsimp -implicitDefEqProofs [c_laws_szTariff]
  refine call_lend (sz_IntS_c e.PerClass _ h0 h1) (by simp) rfl ?_
  simp -dsimp -implicitDefEqProofs
  refine ⟨fun h => by simp [sz_Tariff, andSz_neg h], fun p0 => ?_⟩
  have q0 := sz_le sz_IntS_ok e.PerClass h0 h1 p0
  refine call_lend (sz_IntS_c e.Weights _ p0 q0) (by simp) rfl ?_
  simp -dsimp -implicitDefEqProofs
  refine ⟨fun h => by simp [sz_Tariff, andSz_pos p0, andSz_neg h], fun p1 => ?_⟩
  simp [sz_Tariff, andSz_pos p0, andSz_pos p1]
structure TariffFacts (t : Tariff) : Prop where
  base : 0 ≤ t.Base ∧ t.Base ≤ 10000
  area : 0 ≤ t.PerArea ∧ t.PerArea ≤ 100
  three : t.PerClass.length = 3
  cls : ∀ x ∈ t.PerClass, 0 ≤ x ∧ x ≤ 10000
  wlen : 1 ≤ t.Weights.length ∧ t.Weights.length ≤ 11
  wts : ∀ x ∈ t.Weights, 0 ≤ x ∧ x ≤ 1000
  sum : 0 < t.Weights.sum
theorem tariffFacts {t : Tariff} (h : TariffOk t = true) : TariffFacts t := by
  simp only [TariffOk, Bool.and_eq_true, List.all_eq_true, decide_eq_true_eq] at h
  obtain ⟨⟨⟨⟨⟨⟨h1, h2⟩, h3⟩, h4⟩, h5⟩, h6⟩, h7⟩ := h
  have h4 := inRange_iff.1 h4
  exact ⟨inRange_iff.1 h1, inRange_iff.1 h2, h3, fun x hx => inRange_iff.1 (h5 x hx), by omega, fun x hx => inRange_iff.1 (h6 x hx), h7⟩
def TollOf (t : Tariff) (x : Train) : Int := if TariffOk t && TrainOk x then t.Base + (t.PerArea * LengthOf x * WidthOf x).tdiv 100 + t.PerClass[(ClassOf x).toNat]?.getD 0 else 0
theorem toll_bounds {t : Tariff} {x : Train} (h1 : TariffOk t = true) (h2 : TrainOk x = true) :
    ∃ c, t.PerClass[(ClassOf x).toNat]? = some c ∧ 0 ≤ ClassOf x ∧ ClassOf x < t.PerClass.length ∧ inI (t.PerArea * LengthOf x) ∧ inI (t.PerArea * LengthOf x * WidthOf x) ∧ inI ((t.PerArea * LengthOf x * WidthOf x).tdiv 100) ∧
      inI (t.Base + (t.PerArea * LengthOf x * WidthOf x).tdiv 100) ∧ inI (t.Base + (t.PerArea * LengthOf x * WidthOf x).tdiv 100 + c) ∧ 0 ≤ t.Base + (t.PerArea * LengthOf x * WidthOf x).tdiv 100 + c ∧ t.Base + (t.PerArea * LengthOf x * WidthOf x).tdiv 100 + c ≤ 1000000 := by
  have tf := tariffFacts h1
  have a1 := LengthOf_in x
  have a2 := WidthOf_in x
  have a3 := ClassOf_in h2
  have b1 := tf.base; have b2 := tf.area; have b3 := tf.three
  obtain ⟨c, hc⟩ : ∃ c, t.PerClass[(ClassOf x).toNat]? = some c := ⟨_, List.getElem?_eq_getElem (by omega)⟩
  have b4 := tf.cls c (List.mem_of_getElem? hc)
  have e1 : 0 ≤ t.PerArea * LengthOf x := Int.mul_nonneg b2.1 a1.1
  have e2 : t.PerArea * LengthOf x ≤ 100 * 1200 := Int.mul_le_mul b2.2 a1.2 a1.1 (by omega)
  have e3 : 0 ≤ t.PerArea * LengthOf x * WidthOf x := Int.mul_nonneg e1 a2.1
  have e4 : t.PerArea * LengthOf x * WidthOf x ≤ 120000 * 180 := Int.mul_le_mul (by omega) a2.2 a2.1 (by omega)
  have e5 : (t.PerArea * LengthOf x * WidthOf x).tdiv 100 = (t.PerArea * LengthOf x * WidthOf x) / 100 := Int.tdiv_eq_ediv_of_nonneg e3
  rw [e5]
  refine ⟨c, hc, a3.1, by omega, ?_, ?_, ?_, ?_, ?_, by omega, by omega⟩ <;> unfold inI <;> omega
theorem TollOf_in (t : Tariff) (x : Train) : 0 ≤ TollOf t x ∧ TollOf t x ≤ 1000000 := by
  unfold TollOf
  split
  · rename_i h
    rw [Bool.and_eq_true] at h
    obtain ⟨c, hc, _, _, _, _, _, _, _, c1, c2⟩ := toll_bounds h.1 h.2
    rw [hc]; exact ⟨c1, c2⟩
  · omega
theorem TollOf_impl (t : Tariff) (x : Train) (h : x.small) : PureF Try.prog n_impl_TollOf [.agg (t.enc.map .c), .agg (x.enc.map .c)] (.c (.i (TollOf t x))) := by
  refine pure_of h_impl_TollOf (by simp) fun hwf => ?_
  simp -dsimp -implicitDefEqProofs [c_impl_TollOf]
  first
    | refine call_lend (TariffOk_impl t) (by simp) rfl ?_
    | refine call_pure (TariffOk_impl t) (by simp) rfl ?_
    | refine ⟨_, _, TariffOk_impl t, by simp, .inr rfl, ?_⟩
    | refine ⟨_, _, TariffOk_impl t, by simp, .inl rfl, ?_⟩
    | refine callE_pure (TariffOk_impl t) (by simp) (.inr rfl) ?_
    | refine callE_pure (TariffOk_impl t) (by simp) (.inl rfl) ?_
  cases h1 : TariffOk t with
  | false => simp -dsimp -implicitDefEqProofs; simp [TollOf, h1]
  | true =>
    simp -dsimp -implicitDefEqProofs
    first
      | refine call_lend (TrainOk_impl x h) (by simp) rfl ?_
      | refine call_pure (TrainOk_impl x h) (by simp) rfl ?_
      | refine ⟨_, _, TrainOk_impl x h, by simp, .inr rfl, ?_⟩
      | refine ⟨_, _, TrainOk_impl x h, by simp, .inl rfl, ?_⟩
      | refine callE_pure (TrainOk_impl x h) (by simp) (.inr rfl) ?_
      | refine callE_pure (TrainOk_impl x h) (by simp) (.inl rfl) ?_
    cases h2 : TrainOk x with
    | false => simp -dsimp -implicitDefEqProofs; simp [TollOf, h2]
    | true =>
      obtain ⟨c, hc, c1, c2, c3, c4, c5, c6, c7, _, _⟩ := toll_bounds h1 h2
      simp -dsimp -implicitDefEqProofs
      first
        | refine call_lend (LengthOf_impl x h) (by simp) rfl ?_
        | refine call_pure (LengthOf_impl x h) (by simp) rfl ?_
        | refine ⟨_, _, LengthOf_impl x h, by simp, .inr rfl, ?_⟩
        | refine ⟨_, _, LengthOf_impl x h, by simp, .inl rfl, ?_⟩
        | refine callE_pure (LengthOf_impl x h) (by simp) (.inr rfl) ?_
        | refine callE_pure (LengthOf_impl x h) (by simp) (.inl rfl) ?_
      simp -dsimp -implicitDefEqProofs
      refine ⟨c3, ?_⟩
      first
        | refine call_lend (WidthOf_impl x h) (by simp) rfl ?_
        | refine call_pure (WidthOf_impl x h) (by simp) rfl ?_
        | refine ⟨_, _, WidthOf_impl x h, by simp, .inr rfl, ?_⟩
        | refine ⟨_, _, WidthOf_impl x h, by simp, .inl rfl, ?_⟩
        | refine callE_pure (WidthOf_impl x h) (by simp) (.inr rfl) ?_
        | refine callE_pure (WidthOf_impl x h) (by simp) (.inl rfl) ?_
      simp -dsimp -implicitDefEqProofs
      refine ⟨c4, c5, c6, ?_⟩
      first
        | refine call_lend (ClassOf_impl x h) (by simp) rfl ?_
        | refine call_pure (ClassOf_impl x h) (by simp) rfl ?_
        | refine ⟨_, _, ClassOf_impl x h, by simp, .inr rfl, ?_⟩
        | refine ⟨_, _, ClassOf_impl x h, by simp, .inl rfl, ?_⟩
        | refine callE_pure (ClassOf_impl x h) (by simp) (.inr rfl) ?_
        | refine callE_pure (ClassOf_impl x h) (by simp) (.inl rfl) ?_
      have hg := (List.getElem?_eq_some_iff.1 hc).2
      simp -dsimp -implicitDefEqProofs [hc, c1, c2, hg]
      exact ⟨c7, by simp [TollOf, h1, h2, hc]⟩
theorem TollOf_spec (t : Tariff) (x : Train) (h : x.small) : PureF Try.prog n_spec_TollOf [.agg (t.enc.map .c), .agg (x.enc.map .c)] (.c (.i (TollOf t x))) := by
  refine pure_of h_spec_TollOf (by simp) fun hwf => ?_
  simp -dsimp -implicitDefEqProofs [c_spec_TollOf]
  first
    | refine call_lend (TariffOk_spec t) (by simp) rfl ?_
    | refine call_pure (TariffOk_spec t) (by simp) rfl ?_
    | refine ⟨_, _, TariffOk_spec t, by simp, .inr rfl, ?_⟩
    | refine ⟨_, _, TariffOk_spec t, by simp, .inl rfl, ?_⟩
    | refine callE_pure (TariffOk_spec t) (by simp) (.inr rfl) ?_
    | refine callE_pure (TariffOk_spec t) (by simp) (.inl rfl) ?_
  cases h1 : TariffOk t with
  | false => simp -dsimp -implicitDefEqProofs; simp [TollOf, h1]
  | true =>
    simp -dsimp -implicitDefEqProofs
    first
      | refine call_lend (TrainOk_spec x h) (by simp) rfl ?_
      | refine call_pure (TrainOk_spec x h) (by simp) rfl ?_
      | refine ⟨_, _, TrainOk_spec x h, by simp, .inr rfl, ?_⟩
      | refine ⟨_, _, TrainOk_spec x h, by simp, .inl rfl, ?_⟩
      | refine callE_pure (TrainOk_spec x h) (by simp) (.inr rfl) ?_
      | refine callE_pure (TrainOk_spec x h) (by simp) (.inl rfl) ?_
    cases h2 : TrainOk x with
    | false => simp -dsimp -implicitDefEqProofs; simp [TollOf, h2]
    | true =>
      obtain ⟨c, hc, c1, c2, c3, c4, c5, c6, c7, _, _⟩ := toll_bounds h1 h2
      simp -dsimp -implicitDefEqProofs
      first
        | refine call_lend (LengthOf_spec x h) (by simp) rfl ?_
        | refine call_pure (LengthOf_spec x h) (by simp) rfl ?_
        | refine ⟨_, _, LengthOf_spec x h, by simp, .inr rfl, ?_⟩
        | refine ⟨_, _, LengthOf_spec x h, by simp, .inl rfl, ?_⟩
        | refine callE_pure (LengthOf_spec x h) (by simp) (.inr rfl) ?_
        | refine callE_pure (LengthOf_spec x h) (by simp) (.inl rfl) ?_
      simp -dsimp -implicitDefEqProofs
      refine ⟨c3, ?_⟩
      first
        | refine call_lend (WidthOf_spec x h) (by simp) rfl ?_
        | refine call_pure (WidthOf_spec x h) (by simp) rfl ?_
        | refine ⟨_, _, WidthOf_spec x h, by simp, .inr rfl, ?_⟩
        | refine ⟨_, _, WidthOf_spec x h, by simp, .inl rfl, ?_⟩
        | refine callE_pure (WidthOf_spec x h) (by simp) (.inr rfl) ?_
        | refine callE_pure (WidthOf_spec x h) (by simp) (.inl rfl) ?_
      simp -dsimp -implicitDefEqProofs
      refine ⟨c4, c5, c6, ?_⟩
      first
        | refine call_lend (ClassOf_spec x h) (by simp) rfl ?_
        | refine call_pure (ClassOf_spec x h) (by simp) rfl ?_
        | refine ⟨_, _, ClassOf_spec x h, by simp, .inr rfl, ?_⟩
        | refine ⟨_, _, ClassOf_spec x h, by simp, .inl rfl, ?_⟩
        | refine callE_pure (ClassOf_spec x h) (by simp) (.inr rfl) ?_
        | refine callE_pure (ClassOf_spec x h) (by simp) (.inl rfl) ?_
      have hg := (List.getElem?_eq_some_iff.1 hc).2
      simp -dsimp -implicitDefEqProofs [hc, c1, c2, hg]
      exact ⟨c7, by simp [TollOf, h1, h2, hc]⟩
theorem FnExactTollOf_c (x0 : Tariff) (x1 : Train) : PureF Try.prog n_laws_FnExactTollOf [.agg (x0.enc.map .c), .agg (x1.enc.map .c)] (.c (.b true)) := by
  refine pure_of h_laws_FnExactTollOf (by simp) fun hwf => ?_
  simp -dsimp -implicitDefEqProofs [c_laws_FnExactTollOf]
  first
    | refine call_lend (sz_Tariff_c x0 1048576 (by omega) (by omega)) (by simp) rfl ?_
    | refine call_pure (sz_Tariff_c x0 1048576 (by omega) (by omega)) (by simp) rfl ?_
    | refine ⟨_, _, sz_Tariff_c x0 1048576 (by omega) (by omega), by simp, .inr rfl, ?_⟩
    | refine ⟨_, _, sz_Tariff_c x0 1048576 (by omega) (by omega), by simp, .inl rfl, ?_⟩
    | refine callE_pure (sz_Tariff_c x0 1048576 (by omega) (by omega)) (by simp) (.inr rfl) ?_
    | refine callE_pure (sz_Tariff_c x0 1048576 (by omega) (by omega)) (by simp) (.inl rfl) ?_
  simp -dsimp -implicitDefEqProofs
  intro hsz0
  have hl0 := sz_small sz_Tariff_ok (by omega) (by omega) hsz0
  have hle0 := sz_le sz_Tariff_ok x0 (by omega) (by omega) hsz0
  first
    | refine call_lend (sz_Train_c x1 _ hsz0 hle0) (by simp) rfl ?_
    | refine call_pure (sz_Train_c x1 _ hsz0 hle0) (by simp) rfl ?_
    | refine ⟨_, _, sz_Train_c x1 _ hsz0 hle0, by simp, .inr rfl, ?_⟩
    | refine ⟨_, _, sz_Train_c x1 _ hsz0 hle0, by simp, .inl rfl, ?_⟩
    | refine callE_pure (sz_Train_c x1 _ hsz0 hle0) (by simp) (.inr rfl) ?_
    | refine callE_pure (sz_Train_c x1 _ hsz0 hle0) (by simp) (.inl rfl) ?_
  simp -dsimp -implicitDefEqProofs
  intro hsz1
  have hl1 := sz_small sz_Train_ok hsz0 hle0 hsz1
  have hle1 := sz_le sz_Train_ok x1 hsz0 hle0 hsz1
  first
    | refine call_lend (toTariff_c x0 hl0) (by simp) rfl ?_
    | refine call_pure (toTariff_c x0 hl0) (by simp) rfl ?_
    | refine ⟨_, _, toTariff_c x0 hl0, by simp, .inr rfl, ?_⟩
    | refine ⟨_, _, toTariff_c x0 hl0, by simp, .inl rfl, ?_⟩
    | refine callE_pure (toTariff_c x0 hl0) (by simp) (.inr rfl) ?_
    | refine callE_pure (toTariff_c x0 hl0) (by simp) (.inl rfl) ?_
  simp -dsimp -implicitDefEqProofs
  first
    | refine call_lend (toTrain_c x1 hl1) (by simp) rfl ?_
    | refine call_pure (toTrain_c x1 hl1) (by simp) rfl ?_
    | refine ⟨_, _, toTrain_c x1 hl1, by simp, .inr rfl, ?_⟩
    | refine ⟨_, _, toTrain_c x1 hl1, by simp, .inl rfl, ?_⟩
    | refine callE_pure (toTrain_c x1 hl1) (by simp) (.inr rfl) ?_
    | refine callE_pure (toTrain_c x1 hl1) (by simp) (.inl rfl) ?_
  simp -dsimp -implicitDefEqProofs
  first
    | refine call_lend (TollOf_spec x0 x1 hl1) (by simp) rfl ?_
    | refine call_pure (TollOf_spec x0 x1 hl1) (by simp) rfl ?_
    | refine ⟨_, _, TollOf_spec x0 x1 hl1, by simp, .inr rfl, ?_⟩
    | refine ⟨_, _, TollOf_spec x0 x1 hl1, by simp, .inl rfl, ?_⟩
    | refine callE_pure (TollOf_spec x0 x1 hl1) (by simp) (.inr rfl) ?_
    | refine callE_pure (TollOf_spec x0 x1 hl1) (by simp) (.inl rfl) ?_
  simp -dsimp -implicitDefEqProofs
  first
    | refine call_lend (toTariff_c x0 hl0) (by simp) rfl ?_
    | refine call_pure (toTariff_c x0 hl0) (by simp) rfl ?_
    | refine ⟨_, _, toTariff_c x0 hl0, by simp, .inr rfl, ?_⟩
    | refine ⟨_, _, toTariff_c x0 hl0, by simp, .inl rfl, ?_⟩
    | refine callE_pure (toTariff_c x0 hl0) (by simp) (.inr rfl) ?_
    | refine callE_pure (toTariff_c x0 hl0) (by simp) (.inl rfl) ?_
  simp -dsimp -implicitDefEqProofs
  first
    | refine call_lend (toTrain_c x1 hl1) (by simp) rfl ?_
    | refine call_pure (toTrain_c x1 hl1) (by simp) rfl ?_
    | refine ⟨_, _, toTrain_c x1 hl1, by simp, .inr rfl, ?_⟩
    | refine ⟨_, _, toTrain_c x1 hl1, by simp, .inl rfl, ?_⟩
    | refine callE_pure (toTrain_c x1 hl1) (by simp) (.inr rfl) ?_
    | refine callE_pure (toTrain_c x1 hl1) (by simp) (.inl rfl) ?_
  simp -dsimp -implicitDefEqProofs
  first
    | refine call_lend (TollOf_impl x0 x1 hl1) (by simp) rfl ?_
    | refine call_pure (TollOf_impl x0 x1 hl1) (by simp) rfl ?_
    | refine ⟨_, _, TollOf_impl x0 x1 hl1, by simp, .inr rfl, ?_⟩
    | refine ⟨_, _, TollOf_impl x0 x1 hl1, by simp, .inl rfl, ?_⟩
    | refine callE_pure (TollOf_impl x0 x1 hl1) (by simp) (.inr rfl) ?_
    | refine callE_pure (TollOf_impl x0 x1 hl1) (by simp) (.inl rfl) ?_
  simp -dsimp -implicitDefEqProofs
  first
    | refine call_lend (toTariff_c x0 hl0) (by simp) rfl ?_
    | refine call_pure (toTariff_c x0 hl0) (by simp) rfl ?_
    | refine ⟨_, _, toTariff_c x0 hl0, by simp, .inr rfl, ?_⟩
    | refine ⟨_, _, toTariff_c x0 hl0, by simp, .inl rfl, ?_⟩
    | refine callE_pure (toTariff_c x0 hl0) (by simp) (.inr rfl) ?_
    | refine callE_pure (toTariff_c x0 hl0) (by simp) (.inl rfl) ?_
  simp -dsimp -implicitDefEqProofs
  first
    | refine call_lend (eqTariff_c x0 x0) (by simp) rfl ?_
    | refine call_pure (eqTariff_c x0 x0) (by simp) rfl ?_
    | refine ⟨_, _, eqTariff_c x0 x0, by simp, .inr rfl, ?_⟩
    | refine ⟨_, _, eqTariff_c x0 x0, by simp, .inl rfl, ?_⟩
    | refine callE_pure (eqTariff_c x0 x0) (by simp) (.inr rfl) ?_
    | refine callE_pure (eqTariff_c x0 x0) (by simp) (.inl rfl) ?_
  simp -dsimp -implicitDefEqProofs
  first
    | refine call_lend (toTrain_c x1 hl1) (by simp) rfl ?_
    | refine call_pure (toTrain_c x1 hl1) (by simp) rfl ?_
    | refine ⟨_, _, toTrain_c x1 hl1, by simp, .inr rfl, ?_⟩
    | refine ⟨_, _, toTrain_c x1 hl1, by simp, .inl rfl, ?_⟩
    | refine callE_pure (toTrain_c x1 hl1) (by simp) (.inr rfl) ?_
    | refine callE_pure (toTrain_c x1 hl1) (by simp) (.inl rfl) ?_
  simp -dsimp -implicitDefEqProofs
  first
    | refine call_lend (eqTrain_c x1 x1) (by simp) rfl ?_
    | refine call_pure (eqTrain_c x1 x1) (by simp) rfl ?_
    | refine ⟨_, _, eqTrain_c x1 x1, by simp, .inr rfl, ?_⟩
    | refine ⟨_, _, eqTrain_c x1 x1, by simp, .inl rfl, ?_⟩
    | refine callE_pure (eqTrain_c x1 x1) (by simp) (.inr rfl) ?_
    | refine callE_pure (eqTrain_c x1 x1) (by simp) (.inl rfl) ?_
  simp -dsimp -implicitDefEqProofs


end Go.Proofs.Ytfmgadchjiplmaa
