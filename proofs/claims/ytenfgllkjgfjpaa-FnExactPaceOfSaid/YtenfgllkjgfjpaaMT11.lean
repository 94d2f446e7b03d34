/- Contracts of functions of this seat: what each answers, as plain Lean. -/
import Derived.Test.YtenfgllkjgfjpaaMT10
set_option linter.all false
namespace Go.Proofs.Ytenfgllkjgfjpaa
open Go.RowKit

theorem PaceOf_no1 {t : Train} {d : Int} (h : TrainOk t = false) : PaceOf t d = 0 := by simp [PaceOf, h]
theorem PaceOf_no2 {t : Train} {d : Int} (h : inRange d 0 1000000000 = false) : PaceOf t d = 0 := by simp [PaceOf, h]
theorem PaceOf_no3 {t : Train} {d : Int} (h : d < DraughtOf t) : PaceOf t d = 0 := by
  have : ¬ DraughtOf t ≤ d := by omega
  simp [PaceOf, this]
theorem PaceOf_impl (t : Train) (d : Int) (h : t.small) : PureF Try.prog n_impl_PaceOf [.agg (t.enc.map .c), .c (.i d)] (.c (.i (PaceOf t d))) := by
  refine pure_of h_impl_PaceOf (by simp) fun hwf => ?_
  have hd := DraughtOf_in t
  have hs := SpeedOf_in t
  simp -dsimp -implicitDefEqProofs [c_impl_PaceOf]
  refine call_lend (TrainOk_impl t h) (by simp) rfl ?_
  simp -dsimp -implicitDefEqProofs
  refine ⟨fun h1 => ?_, fun h1 => PaceOf_no1 h1⟩
  refine call_lend (inRange_impl d 0 1000000000) (by simp) rfl ?_
  simp -dsimp -implicitDefEqProofs
  refine ⟨fun h2 => ?_, fun h2 => PaceOf_no2 h2⟩
  have h2' := inRange_iff.1 h2
  refine call_lend (DraughtOf_impl t h) (by simp) rfl ?_
  simp -dsimp -implicitDefEqProofs
  refine ⟨fun h3 => PaceOf_no3 h3, fun h3 => ?_⟩
  refine ⟨by unfold inI; omega, ?_⟩
  refine call_lend (DraughtOf_impl t h) (by simp) rfl ?_
  simp -dsimp -implicitDefEqProofs
  refine ⟨by unfold inI; omega, fun h4 => ?_, fun h4 => ?_⟩
  · refine call_lend (SpeedOf_impl t h) (by simp) rfl ?_
    simp -dsimp -implicitDefEqProofs
    have ht : (SpeedOf t + 1).tdiv 2 = (SpeedOf t + 1) / 2 := Int.tdiv_eq_ediv_of_nonneg (by omega)
    exact ⟨by unfold inI; omega, by rw [ht]; unfold inI; omega, by simp [PaceOf, h1, h2, h3, h4]⟩
  · refine call_lend (SpeedOf_impl t h) (by simp) rfl ?_
    simp -dsimp -implicitDefEqProofs
    have h4' : ¬ 2 * d < 3 * DraughtOf t := by omega
    simp [PaceOf, h1, h2, h3, h4']
theorem PaceOf_spec (t : Train) (d : Int) (h : t.small) : PureF Try.prog n_spec_PaceOf [.agg (t.enc.map .c), .c (.i d)] (.c (.i (PaceOf t d))) := by
  refine pure_of h_spec_PaceOf (by simp) fun hwf => ?_
  have hd := DraughtOf_in t
  have hs := SpeedOf_in t
  simp -dsimp -implicitDefEqProofs [c_spec_PaceOf]
  refine call_lend (TrainOk_spec t h) (by simp) rfl ?_
  simp -dsimp -implicitDefEqProofs
  refine ⟨fun h1 => ?_, fun h1 => PaceOf_no1 h1⟩
  refine call_lend (inRange_spec d 0 1000000000) (by simp) rfl ?_
  simp -dsimp -implicitDefEqProofs
  refine ⟨fun h2 => ?_, fun h2 => PaceOf_no2 h2⟩
  have h2' := inRange_iff.1 h2
  refine call_lend (DraughtOf_spec t h) (by simp) rfl ?_
  simp -dsimp -implicitDefEqProofs
  refine ⟨fun h3 => PaceOf_no3 h3, fun h3 => ?_⟩
  refine ⟨by unfold inI; omega, ?_⟩
  refine call_lend (DraughtOf_spec t h) (by simp) rfl ?_
  simp -dsimp -implicitDefEqProofs
  refine ⟨by unfold inI; omega, fun h4 => ?_, fun h4 => ?_⟩
  · refine call_lend (SpeedOf_spec t h) (by simp) rfl ?_
    simp -dsimp -implicitDefEqProofs
    have ht : (SpeedOf t + 1).tdiv 2 = (SpeedOf t + 1) / 2 := Int.tdiv_eq_ediv_of_nonneg (by omega)
    exact ⟨by unfold inI; omega, by rw [ht]; unfold inI; omega, by simp [PaceOf, h1, h2, h3, h4]⟩
  · refine call_lend (SpeedOf_spec t h) (by simp) rfl ?_
    simp -dsimp -implicitDefEqProofs
    have h4' : ¬ 2 * d < 3 * DraughtOf t := by omega
    simp [PaceOf, h1, h2, h3, h4']
theorem FnExactPaceOf_c (t : Train) (d : Int) : PureF Try.prog n_laws_FnExactPaceOf [.agg (t.enc.map .c), .c (.i d)] (.c (.b true)) := by
  refine pure_of h_laws_FnExactPaceOf (by simp) fun hwf => ?_
  simp -dsimp -implicitDefEqProofs [c_laws_FnExactPaceOf]
  refine call_lend (sz_Train_c t 1048576 (by omega) (by omega)) (by simp) rfl ?_
  simp -dsimp -implicitDefEqProofs
  intro hsz
  have hl : t.small := sz_small sz_Train_ok (by omega) (by omega) hsz
  refine call_pure (toTrain_c t hl) (by simp) rfl ?_
  simp -dsimp -implicitDefEqProofs
  refine call_lend (PaceOf_spec t d hl) (by simp) rfl ?_
  simp -dsimp -implicitDefEqProofs
  refine call_pure (toTrain_c t hl) (by simp) rfl ?_
  simp -dsimp -implicitDefEqProofs
  refine call_lend (PaceOf_impl t d hl) (by simp) rfl ?_
  simp -dsimp -implicitDefEqProofs
  first
    | refine ⟨_, _, toTrain_c t hl, by simp, .inl rfl, ?_⟩
    | refine call_pure (toTrain_c t hl) (by simp) rfl ?_
  simp -dsimp -implicitDefEqProofs
  first
    | refine ⟨_, _, eqTrain_c t t, by simp, .inr rfl, ?_⟩
    | refine call_lend (eqTrain_c t t) (by simp) rfl ?_
  simp -dsimp -implicitDefEqProofs

end Go.Proofs.Ytenfgllkjgfjpaa
