/- Contracts of functions of this seat: what each answers, as plain Lean. -/
import Derived.Test.YtpcopekamgapaaaGreatMT62
set_option linter.all false
namespace Go.Proofs.YtpcopekamgapaaaGreat
open Go.RowKit

/-! Waterways: the laws. -/
theorem FnExactWaterwayOk_c (x0 : Waterway) : PureF Tryz.prog n_laws_FnExactWaterwayOk [.agg (x0.enc.map .c)] (.c (.b true)) := by
  refine pure_of h_laws_FnExactWaterwayOk (by simp) fun hwf => ?_
  simp -dsimp -implicitDefEqProofs [c_laws_FnExactWaterwayOk]
  first
    | refine call_lend (sz_Waterway_c x0 1048576 (by omega) (by omega)) (by simp) rfl ?_
    | refine call_pure (sz_Waterway_c x0 1048576 (by omega) (by omega)) (by simp) rfl ?_
    | refine ⟨_, _, sz_Waterway_c x0 1048576 (by omega) (by omega), by simp, .inr rfl, ?_⟩
    | refine ⟨_, _, sz_Waterway_c x0 1048576 (by omega) (by omega), by simp, .inl rfl, ?_⟩
    | refine callE_pure (sz_Waterway_c x0 1048576 (by omega) (by omega)) (by simp) (.inr rfl) ?_
    | refine callE_pure (sz_Waterway_c x0 1048576 (by omega) (by omega)) (by simp) (.inl rfl) ?_
  simp -dsimp -implicitDefEqProofs
  intro hsz0
  have hl0 := sz_small sz_Waterway_ok (by omega) (by omega) hsz0
  first
    | refine call_lend (toWaterway_c x0 hl0) (by simp) rfl ?_
    | refine call_pure (toWaterway_c x0 hl0) (by simp) rfl ?_
    | refine ⟨_, _, toWaterway_c x0 hl0, by simp, .inr rfl, ?_⟩
    | refine ⟨_, _, toWaterway_c x0 hl0, by simp, .inl rfl, ?_⟩
    | refine callE_pure (toWaterway_c x0 hl0) (by simp) (.inr rfl) ?_
    | refine callE_pure (toWaterway_c x0 hl0) (by simp) (.inl rfl) ?_
  simp -dsimp -implicitDefEqProofs
  first
    | refine call_lend (WaterwayOk_spec x0 hl0) (by simp) rfl ?_
    | refine call_pure (WaterwayOk_spec x0 hl0) (by simp) rfl ?_
    | refine ⟨_, _, WaterwayOk_spec x0 hl0, by simp, .inr rfl, ?_⟩
    | refine ⟨_, _, WaterwayOk_spec x0 hl0, by simp, .inl rfl, ?_⟩
    | refine callE_pure (WaterwayOk_spec x0 hl0) (by simp) (.inr rfl) ?_
    | refine callE_pure (WaterwayOk_spec x0 hl0) (by simp) (.inl rfl) ?_
  simp -dsimp -implicitDefEqProofs
  first
    | refine call_lend (toWaterway_c x0 hl0) (by simp) rfl ?_
    | refine call_pure (toWaterway_c x0 hl0) (by simp) rfl ?_
    | refine ⟨_, _, toWaterway_c x0 hl0, by simp, .inr rfl, ?_⟩
    | refine ⟨_, _, toWaterway_c x0 hl0, by simp, .inl rfl, ?_⟩
    | refine callE_pure (toWaterway_c x0 hl0) (by simp) (.inr rfl) ?_
    | refine callE_pure (toWaterway_c x0 hl0) (by simp) (.inl rfl) ?_
  simp -dsimp -implicitDefEqProofs
  first
    | refine call_lend (WaterwayOk_impl x0 hl0) (by simp) rfl ?_
    | refine call_pure (WaterwayOk_impl x0 hl0) (by simp) rfl ?_
    | refine ⟨_, _, WaterwayOk_impl x0 hl0, by simp, .inr rfl, ?_⟩
    | refine ⟨_, _, WaterwayOk_impl x0 hl0, by simp, .inl rfl, ?_⟩
    | refine callE_pure (WaterwayOk_impl x0 hl0) (by simp) (.inr rfl) ?_
    | refine callE_pure (WaterwayOk_impl x0 hl0) (by simp) (.inl rfl) ?_
  simp -dsimp -implicitDefEqProofs
  first
    | refine call_lend (toWaterway_c x0 hl0) (by simp) rfl ?_
    | refine call_pure (toWaterway_c x0 hl0) (by simp) rfl ?_
    | refine ⟨_, _, toWaterway_c x0 hl0, by simp, .inr rfl, ?_⟩
    | refine ⟨_, _, toWaterway_c x0 hl0, by simp, .inl rfl, ?_⟩
    | refine callE_pure (toWaterway_c x0 hl0) (by simp) (.inr rfl) ?_
    | refine callE_pure (toWaterway_c x0 hl0) (by simp) (.inl rfl) ?_
  simp -dsimp -implicitDefEqProofs
  first
    | refine call_lend (eqWaterway_c x0 x0) (by simp) rfl ?_
    | refine call_pure (eqWaterway_c x0 x0) (by simp) rfl ?_
    | refine ⟨_, _, eqWaterway_c x0 x0, by simp, .inr rfl, ?_⟩
    | refine ⟨_, _, eqWaterway_c x0 x0, by simp, .inl rfl, ?_⟩
    | refine callE_pure (eqWaterway_c x0 x0) (by simp) (.inr rfl) ?_
    | refine callE_pure (eqWaterway_c x0 x0) (by simp) (.inl rfl) ?_
  simp -dsimp -implicitDefEqProofs

end Go.Proofs.YtpcopekamgapaaaGreat
