/- Contracts of functions of this seat: what each answers, as plain Lean. -/
import Derived.Test.YtfmgadchjiplmaaMT5
set_option linter.all false
namespace Go.Proofs.Ytfmgadchjiplmaa
open Go.RowKit

theorem PaceOf_in (t : Train) (d : Int) : 0 ≤ PaceOf t d ∧ PaceOf t d ≤ 51 := by
  have := SpeedOf_in t
  unfold PaceOf
  split
  · split
    · rw [Int.tdiv_eq_ediv_of_nonneg (by omega)]; omega
    · omega
  · omega
theorem moverFacts {m : Mover} {w : Way} (h : MoverOk m w = true) : (1 ≤ w.Long ∧ w.Long ≤ 10000) ∧ (0 ≤ m.Place ∧ m.Place ≤ w.Long) := by
  simp only [MoverOk, Bool.and_eq_true] at h
  exact ⟨(WayOk_bed h.1.1).1, inRange_iff.1 h.2⟩
def leftOf (m : Mover) (w : Way) : Int := if m.Train.Up then m.Place else w.Long - m.Place
def TimeTo (m : Mover) (w : Way) (r : Reach) : Int :=
  if MoverOk m w && ReachOk r then (if leftOf m w = 0 then 0 else if PaceOf m.Train (DepthIn w r) = 0 then -1 else (leftOf m w + PaceOf m.Train (DepthIn w r) - 1).tdiv (PaceOf m.Train (DepthIn w r))) else -1
theorem TimeTo_no1 {m : Mover} {w : Way} {r : Reach} (h : MoverOk m w = false) : TimeTo m w r = -1 := by simp [TimeTo, h]
theorem TimeTo_no2 {m : Mover} {w : Way} {r : Reach} (h : ReachOk r = false) : TimeTo m w r = -1 := by simp [TimeTo, h]
theorem TimeTo_yes {m : Mover} {w : Way} {r : Reach} {l : Int} (h1 : MoverOk m w = true) (h2 : ReachOk r = true) (hl : leftOf m w = l) : TimeTo m w r = if l = 0 then 0 else if PaceOf m.Train (DepthIn w r) = 0 then -1 else (l + PaceOf m.Train (DepthIn w r) - 1).tdiv (PaceOf m.Train (DepthIn w r)) := by
  subst hl; simp [TimeTo, h1, h2]
theorem ratio_in {l p : Int} (h1 : 0 ≤ l) (h2 : l ≤ 10000) (h3 : 0 ≤ p) (h4 : p ≤ 51) (h5 : p ≠ 0) : inI (l + p) ∧ inI (l + p - 1) ∧ inI ((l + p - 1).tdiv p) := by
  have e1 : (l + p - 1).tdiv p = (l + p - 1) / p := Int.tdiv_eq_ediv_of_nonneg (by omega)
  have e2 : 0 ≤ (l + p - 1) / p := Int.ediv_nonneg (by omega) h3
  have e3 : (l + p - 1) / p ≤ l + p - 1 := Int.ediv_le_self _ (by omega)
  rw [e1]
  refine ⟨?_, ?_, ?_⟩ <;> unfold inI <;> omega
theorem TimeTo_impl (m : Mover) (w : Way) (r : Reach) (h : m.small) : PureF Try.prog n_impl_TimeTo [.agg (m.enc.map .c), .agg (w.enc.map .c), .agg (r.enc.map .c)] (.c (.i (TimeTo m w r))) := by
  refine pure_of h_impl_TimeTo (by simp) fun hwf => ?_
  simp -dsimp -implicitDefEqProofs [c_impl_TimeTo]
  first
    | refine call_lend (MoverOk_impl m w h) (by simp) rfl ?_
    | refine call_pure (MoverOk_impl m w h) (by simp) rfl ?_
    | refine ⟨_, _, MoverOk_impl m w h, by simp, .inr rfl, ?_⟩
    | refine ⟨_, _, MoverOk_impl m w h, by simp, .inl rfl, ?_⟩
    | refine callE_pure (MoverOk_impl m w h) (by simp) (.inr rfl) ?_
    | refine callE_pure (MoverOk_impl m w h) (by simp) (.inl rfl) ?_
  cases h1 : MoverOk m w with
  | false => simp -dsimp -implicitDefEqProofs; simp [TimeTo_no1 h1]
  | true =>
    simp -dsimp -implicitDefEqProofs
    first
      | refine call_lend (ReachOk_impl r) (by simp) rfl ?_
      | refine call_pure (ReachOk_impl r) (by simp) rfl ?_
      | refine ⟨_, _, ReachOk_impl r, by simp, .inr rfl, ?_⟩
      | refine ⟨_, _, ReachOk_impl r, by simp, .inl rfl, ?_⟩
      | refine callE_pure (ReachOk_impl r) (by simp) (.inr rfl) ?_
      | refine callE_pure (ReachOk_impl r) (by simp) (.inl rfl) ?_
    cases h2 : ReachOk r with
    | false => simp -dsimp -implicitDefEqProofs; simp [TimeTo_no2 h2]
    | true =>
      obtain ⟨f1, f2⟩ := moverFacts h1
      have hp := PaceOf_in m.Train (DepthIn w r)
      cases hu : m.Train.Up with
      | true =>
        have hl : leftOf m w = m.Place := by simp [leftOf, hu]
        rw [TimeTo_yes h1 h2 hl]
        simp -dsimp -implicitDefEqProofs [hu]
        refine ⟨fun h3 => by simp [h3], fun h3 => ?_⟩
        first
          | refine call_lend (DepthIn_impl w r) (by simp) rfl ?_
          | refine call_pure (DepthIn_impl w r) (by simp) rfl ?_
          | refine ⟨_, _, DepthIn_impl w r, by simp, .inr rfl, ?_⟩
          | refine ⟨_, _, DepthIn_impl w r, by simp, .inl rfl, ?_⟩
          | refine callE_pure (DepthIn_impl w r) (by simp) (.inr rfl) ?_
          | refine callE_pure (DepthIn_impl w r) (by simp) (.inl rfl) ?_
        simp -dsimp -implicitDefEqProofs
        first
          | refine call_lend (PaceOf_impl m.Train (DepthIn w r) h) (by simp [hu]) rfl ?_
          | refine call_pure (PaceOf_impl m.Train (DepthIn w r) h) (by simp [hu]) rfl ?_
          | refine ⟨_, _, PaceOf_impl m.Train (DepthIn w r) h, by simp [hu], .inr rfl, ?_⟩
          | refine ⟨_, _, PaceOf_impl m.Train (DepthIn w r) h, by simp [hu], .inl rfl, ?_⟩
          | refine callE_pure (PaceOf_impl m.Train (DepthIn w r) h) (by simp [hu]) (.inr rfl) ?_
          | refine callE_pure (PaceOf_impl m.Train (DepthIn w r) h) (by simp [hu]) (.inl rfl) ?_
        simp -dsimp -implicitDefEqProofs
        refine ⟨fun h4 => by simp [h3, h4], fun h4 => ?_⟩
        obtain ⟨g1, g2, g3⟩ := ratio_in f2.1 (by omega) hp.1 hp.2 h4
        exact ⟨g1, g2, h4, g3, by simp [h3, h4]⟩
      | false =>
        have hl : leftOf m w = w.Long - m.Place := by simp [leftOf, hu]
        rw [TimeTo_yes h1 h2 hl]
        simp -dsimp -implicitDefEqProofs [hu]
        refine ⟨by unfold inI; omega, fun h3 => by simp [h3], fun h3 => ?_⟩
        first
          | refine call_lend (DepthIn_impl w r) (by simp) rfl ?_
          | refine call_pure (DepthIn_impl w r) (by simp) rfl ?_
          | refine ⟨_, _, DepthIn_impl w r, by simp, .inr rfl, ?_⟩
          | refine ⟨_, _, DepthIn_impl w r, by simp, .inl rfl, ?_⟩
          | refine callE_pure (DepthIn_impl w r) (by simp) (.inr rfl) ?_
          | refine callE_pure (DepthIn_impl w r) (by simp) (.inl rfl) ?_
        simp -dsimp -implicitDefEqProofs
        first
          | refine call_lend (PaceOf_impl m.Train (DepthIn w r) h) (by simp [hu]) rfl ?_
          | refine call_pure (PaceOf_impl m.Train (DepthIn w r) h) (by simp [hu]) rfl ?_
          | refine ⟨_, _, PaceOf_impl m.Train (DepthIn w r) h, by simp [hu], .inr rfl, ?_⟩
          | refine ⟨_, _, PaceOf_impl m.Train (DepthIn w r) h, by simp [hu], .inl rfl, ?_⟩
          | refine callE_pure (PaceOf_impl m.Train (DepthIn w r) h) (by simp [hu]) (.inr rfl) ?_
          | refine callE_pure (PaceOf_impl m.Train (DepthIn w r) h) (by simp [hu]) (.inl rfl) ?_
        simp -dsimp -implicitDefEqProofs
        refine ⟨fun h4 => by simp [h3, h4], fun h4 => ?_⟩
        obtain ⟨g1, g2, g3⟩ := ratio_in (l := w.Long - m.Place) (by omega) (by omega) hp.1 hp.2 h4
        exact ⟨g1, g2, h4, g3, by simp [h3, h4]⟩
theorem TimeTo_spec (m : Mover) (w : Way) (r : Reach) (h : m.small) : PureF Try.prog n_spec_TimeTo [.agg (m.enc.map .c), .agg (w.enc.map .c), .agg (r.enc.map .c)] (.c (.i (TimeTo m w r))) := by
  refine pure_of h_spec_TimeTo (by simp) fun hwf => ?_
  simp -dsimp -implicitDefEqProofs [c_spec_TimeTo]
  first
    | refine call_lend (MoverOk_spec m w h) (by simp) rfl ?_
    | refine call_pure (MoverOk_spec m w h) (by simp) rfl ?_
    | refine ⟨_, _, MoverOk_spec m w h, by simp, .inr rfl, ?_⟩
    | refine ⟨_, _, MoverOk_spec m w h, by simp, .inl rfl, ?_⟩
    | refine callE_pure (MoverOk_spec m w h) (by simp) (.inr rfl) ?_
    | refine callE_pure (MoverOk_spec m w h) (by simp) (.inl rfl) ?_
  cases h1 : MoverOk m w with
  | false => simp -dsimp -implicitDefEqProofs; simp [TimeTo_no1 h1]
  | true =>
    simp -dsimp -implicitDefEqProofs
    first
      | refine call_lend (ReachOk_spec r) (by simp) rfl ?_
      | refine call_pure (ReachOk_spec r) (by simp) rfl ?_
      | refine ⟨_, _, ReachOk_spec r, by simp, .inr rfl, ?_⟩
      | refine ⟨_, _, ReachOk_spec r, by simp, .inl rfl, ?_⟩
      | refine callE_pure (ReachOk_spec r) (by simp) (.inr rfl) ?_
      | refine callE_pure (ReachOk_spec r) (by simp) (.inl rfl) ?_
    cases h2 : ReachOk r with
    | false => simp -dsimp -implicitDefEqProofs; simp [TimeTo_no2 h2]
    | true =>
      obtain ⟨f1, f2⟩ := moverFacts h1
      have hp := PaceOf_in m.Train (DepthIn w r)
      cases hu : m.Train.Up with
      | true =>
        have hl : leftOf m w = m.Place := by simp [leftOf, hu]
        rw [TimeTo_yes h1 h2 hl]
        simp -dsimp -implicitDefEqProofs [hu]
        refine ⟨by unfold inI; omega, ?_⟩
        first
          | refine call_lend (DepthIn_spec w r) (by simp) rfl ?_
          | refine call_pure (DepthIn_spec w r) (by simp) rfl ?_
          | refine ⟨_, _, DepthIn_spec w r, by simp, .inr rfl, ?_⟩
          | refine ⟨_, _, DepthIn_spec w r, by simp, .inl rfl, ?_⟩
          | refine callE_pure (DepthIn_spec w r) (by simp) (.inr rfl) ?_
          | refine callE_pure (DepthIn_spec w r) (by simp) (.inl rfl) ?_
        simp -dsimp -implicitDefEqProofs
        first
          | refine call_lend (PaceOf_spec m.Train (DepthIn w r) h) (by simp [hu]) rfl ?_
          | refine call_pure (PaceOf_spec m.Train (DepthIn w r) h) (by simp [hu]) rfl ?_
          | refine ⟨_, _, PaceOf_spec m.Train (DepthIn w r) h, by simp [hu], .inr rfl, ?_⟩
          | refine ⟨_, _, PaceOf_spec m.Train (DepthIn w r) h, by simp [hu], .inl rfl, ?_⟩
          | refine callE_pure (PaceOf_spec m.Train (DepthIn w r) h) (by simp [hu]) (.inr rfl) ?_
          | refine callE_pure (PaceOf_spec m.Train (DepthIn w r) h) (by simp [hu]) (.inl rfl) ?_
        simp -dsimp -implicitDefEqProofs
        refine ⟨fun h3 => by simp [h3], fun h3 => ⟨fun h4 => by simp [h3, h4], fun h4 => ?_⟩⟩
        obtain ⟨g1, g2, g3⟩ := ratio_in f2.1 (by omega) hp.1 hp.2 h4
        exact ⟨g1, g2, h4, g3, by simp [h3, h4]⟩
      | false =>
        have hl : leftOf m w = w.Long - m.Place := by simp [leftOf, hu]
        rw [TimeTo_yes h1 h2 hl]
        simp -dsimp -implicitDefEqProofs [hu]
        refine ⟨by unfold inI; omega, ?_⟩
        first
          | refine call_lend (DepthIn_spec w r) (by simp) rfl ?_
          | refine call_pure (DepthIn_spec w r) (by simp) rfl ?_
          | refine ⟨_, _, DepthIn_spec w r, by simp, .inr rfl, ?_⟩
          | refine ⟨_, _, DepthIn_spec w r, by simp, .inl rfl, ?_⟩
          | refine callE_pure (DepthIn_spec w r) (by simp) (.inr rfl) ?_
          | refine callE_pure (DepthIn_spec w r) (by simp) (.inl rfl) ?_
        simp -dsimp -implicitDefEqProofs
        first
          | refine call_lend (PaceOf_spec m.Train (DepthIn w r) h) (by simp [hu]) rfl ?_
          | refine call_pure (PaceOf_spec m.Train (DepthIn w r) h) (by simp [hu]) rfl ?_
          | refine ⟨_, _, PaceOf_spec m.Train (DepthIn w r) h, by simp [hu], .inr rfl, ?_⟩
          | refine ⟨_, _, PaceOf_spec m.Train (DepthIn w r) h, by simp [hu], .inl rfl, ?_⟩
          | refine callE_pure (PaceOf_spec m.Train (DepthIn w r) h) (by simp [hu]) (.inr rfl) ?_
          | refine callE_pure (PaceOf_spec m.Train (DepthIn w r) h) (by simp [hu]) (.inl rfl) ?_
        simp -dsimp -implicitDefEqProofs
        refine ⟨fun h3 => by simp [h3], fun h3 => ⟨fun h4 => by simp [h3, h4], fun h4 => ?_⟩⟩
        obtain ⟨g1, g2, g3⟩ := ratio_in (l := w.Long - m.Place) (by omega) (by omega) hp.1 hp.2 h4
        exact ⟨g1, g2, h4, g3, by simp [h3, h4]⟩
theorem FnExactTimeTo_c (x0 : Mover) (x1 : Way) (x2 : Reach) : PureF Try.prog n_laws_FnExactTimeTo [.agg (x0.enc.map .c), .agg (x1.enc.map .c), .agg (x2.enc.map .c)] (.c (.b true)) := by
  refine pure_of h_laws_FnExactTimeTo (by simp) fun hwf => ?_
  simp -dsimp -implicitDefEqProofs [c_laws_FnExactTimeTo]
  first
    | refine call_lend (sz_Mover_c x0 1048576 (by omega) (by omega)) (by simp) rfl ?_
    | refine call_pure (sz_Mover_c x0 1048576 (by omega) (by omega)) (by simp) rfl ?_
    | refine ⟨_, _, sz_Mover_c x0 1048576 (by omega) (by omega), by simp, .inr rfl, ?_⟩
    | refine ⟨_, _, sz_Mover_c x0 1048576 (by omega) (by omega), by simp, .inl rfl, ?_⟩
    | refine callE_pure (sz_Mover_c x0 1048576 (by omega) (by omega)) (by simp) (.inr rfl) ?_
    | refine callE_pure (sz_Mover_c x0 1048576 (by omega) (by omega)) (by simp) (.inl rfl) ?_
  simp -dsimp -implicitDefEqProofs
  intro hsz0
  have hl0 := sz_small sz_Mover_ok (by omega) (by omega) hsz0
  have hle0 := sz_le sz_Mover_ok x0 (by omega) (by omega) hsz0
  first
    | refine call_lend (sz_Reach_c x2 _ hsz0 hle0) (by simp) rfl ?_
    | refine call_pure (sz_Reach_c x2 _ hsz0 hle0) (by simp) rfl ?_
    | refine ⟨_, _, sz_Reach_c x2 _ hsz0 hle0, by simp, .inr rfl, ?_⟩
    | refine ⟨_, _, sz_Reach_c x2 _ hsz0 hle0, by simp, .inl rfl, ?_⟩
    | refine callE_pure (sz_Reach_c x2 _ hsz0 hle0) (by simp) (.inr rfl) ?_
    | refine callE_pure (sz_Reach_c x2 _ hsz0 hle0) (by simp) (.inl rfl) ?_
  simp -dsimp -implicitDefEqProofs
  intro hsz2
  have hl2 := sz_small sz_Reach_ok hsz0 hle0 hsz2
  have hle2 := sz_le sz_Reach_ok x2 hsz0 hle0 hsz2
  first
    | refine call_lend (toMover_c x0 hl0) (by simp) rfl ?_
    | refine call_pure (toMover_c x0 hl0) (by simp) rfl ?_
    | refine ⟨_, _, toMover_c x0 hl0, by simp, .inr rfl, ?_⟩
    | refine ⟨_, _, toMover_c x0 hl0, by simp, .inl rfl, ?_⟩
    | refine callE_pure (toMover_c x0 hl0) (by simp) (.inr rfl) ?_
    | refine callE_pure (toMover_c x0 hl0) (by simp) (.inl rfl) ?_
  simp -dsimp -implicitDefEqProofs
  first
    | refine call_lend (toWay_c x1) (by simp) rfl ?_
    | refine call_pure (toWay_c x1) (by simp) rfl ?_
    | refine ⟨_, _, toWay_c x1, by simp, .inr rfl, ?_⟩
    | refine ⟨_, _, toWay_c x1, by simp, .inl rfl, ?_⟩
    | refine callE_pure (toWay_c x1) (by simp) (.inr rfl) ?_
    | refine callE_pure (toWay_c x1) (by simp) (.inl rfl) ?_
  simp -dsimp -implicitDefEqProofs
  first
    | refine call_lend (toReach_c x2 hl2) (by simp) rfl ?_
    | refine call_pure (toReach_c x2 hl2) (by simp) rfl ?_
    | refine ⟨_, _, toReach_c x2 hl2, by simp, .inr rfl, ?_⟩
    | refine ⟨_, _, toReach_c x2 hl2, by simp, .inl rfl, ?_⟩
    | refine callE_pure (toReach_c x2 hl2) (by simp) (.inr rfl) ?_
    | refine callE_pure (toReach_c x2 hl2) (by simp) (.inl rfl) ?_
  simp -dsimp -implicitDefEqProofs
  first
    | refine call_lend (TimeTo_spec x0 x1 x2 hl0) (by simp) rfl ?_
    | refine call_pure (TimeTo_spec x0 x1 x2 hl0) (by simp) rfl ?_
    | refine ⟨_, _, TimeTo_spec x0 x1 x2 hl0, by simp, .inr rfl, ?_⟩
    | refine ⟨_, _, TimeTo_spec x0 x1 x2 hl0, by simp, .inl rfl, ?_⟩
    | refine callE_pure (TimeTo_spec x0 x1 x2 hl0) (by simp) (.inr rfl) ?_
    | refine callE_pure (TimeTo_spec x0 x1 x2 hl0) (by simp) (.inl rfl) ?_
  simp -dsimp -implicitDefEqProofs
  first
    | refine call_lend (toMover_c x0 hl0) (by simp) rfl ?_
    | refine call_pure (toMover_c x0 hl0) (by simp) rfl ?_
    | refine ⟨_, _, toMover_c x0 hl0, by simp, .inr rfl, ?_⟩
    | refine ⟨_, _, toMover_c x0 hl0, by simp, .inl rfl, ?_⟩
    | refine callE_pure (toMover_c x0 hl0) (by simp) (.inr rfl) ?_
    | refine callE_pure (toMover_c x0 hl0) (by simp) (.inl rfl) ?_
  simp -dsimp -implicitDefEqProofs
  first
    | refine call_lend (toReach_c x2 hl2) (by simp) rfl ?_
    | refine call_pure (toReach_c x2 hl2) (by simp) rfl ?_
    | refine ⟨_, _, toReach_c x2 hl2, by simp, .inr rfl, ?_⟩
    | refine ⟨_, _, toReach_c x2 hl2, by simp, .inl rfl, ?_⟩
    | refine callE_pure (toReach_c x2 hl2) (by simp) (.inr rfl) ?_
    | refine callE_pure (toReach_c x2 hl2) (by simp) (.inl rfl) ?_
  simp -dsimp -implicitDefEqProofs
  first
    | refine call_lend (toWay_c x1) (by simp) rfl ?_
    | refine call_pure (toWay_c x1) (by simp) rfl ?_
    | refine ⟨_, _, toWay_c x1, by simp, .inr rfl, ?_⟩
    | refine ⟨_, _, toWay_c x1, by simp, .inl rfl, ?_⟩
    | refine callE_pure (toWay_c x1) (by simp) (.inr rfl) ?_
    | refine callE_pure (toWay_c x1) (by simp) (.inl rfl) ?_
  simp -dsimp -implicitDefEqProofs
  first
    | refine call_lend (TimeTo_impl x0 x1 x2 hl0) (by simp) rfl ?_
    | refine call_pure (TimeTo_impl x0 x1 x2 hl0) (by simp) rfl ?_
    | refine ⟨_, _, TimeTo_impl x0 x1 x2 hl0, by simp, .inr rfl, ?_⟩
    | refine ⟨_, _, TimeTo_impl x0 x1 x2 hl0, by simp, .inl rfl, ?_⟩
    | refine callE_pure (TimeTo_impl x0 x1 x2 hl0) (by simp) (.inr rfl) ?_
    | refine callE_pure (TimeTo_impl x0 x1 x2 hl0) (by simp) (.inl rfl) ?_
  simp -dsimp -implicitDefEqProofs
  first
    | refine call_lend (toMover_c x0 hl0) (by simp) rfl ?_
    | refine call_pure (toMover_c x0 hl0) (by simp) rfl ?_
    | refine ⟨_, _, toMover_c x0 hl0, by simp, .inr rfl, ?_⟩
    | refine ⟨_, _, toMover_c x0 hl0, by simp, .inl rfl, ?_⟩
    | refine callE_pure (toMover_c x0 hl0) (by simp) (.inr rfl) ?_
    | refine callE_pure (toMover_c x0 hl0) (by simp) (.inl rfl) ?_
  simp -dsimp -implicitDefEqProofs
  first
    | refine call_lend (eqMover_c x0 x0) (by simp) rfl ?_
    | refine call_pure (eqMover_c x0 x0) (by simp) rfl ?_
    | refine ⟨_, _, eqMover_c x0 x0, by simp, .inr rfl, ?_⟩
    | refine ⟨_, _, eqMover_c x0 x0, by simp, .inl rfl, ?_⟩
    | refine callE_pure (eqMover_c x0 x0) (by simp) (.inr rfl) ?_
    | refine callE_pure (eqMover_c x0 x0) (by simp) (.inl rfl) ?_
  simp -dsimp -implicitDefEqProofs
  first
    | refine call_lend (toReach_c x2 hl2) (by simp) rfl ?_
    | refine call_pure (toReach_c x2 hl2) (by simp) rfl ?_
    | refine ⟨_, _, toReach_c x2 hl2, by simp, .inr rfl, ?_⟩
    | refine ⟨_, _, toReach_c x2 hl2, by simp, .inl rfl, ?_⟩
    | refine callE_pure (toReach_c x2 hl2) (by simp) (.inr rfl) ?_
    | refine callE_pure (toReach_c x2 hl2) (by simp) (.inl rfl) ?_
  simp -dsimp -implicitDefEqProofs
  first
    | refine call_lend (eqReach_c x2 x2) (by simp) rfl ?_
    | refine call_pure (eqReach_c x2 x2) (by simp) rfl ?_
    | refine ⟨_, _, eqReach_c x2 x2, by simp, .inr rfl, ?_⟩
    | refine ⟨_, _, eqReach_c x2 x2, by simp, .inl rfl, ?_⟩
    | refine callE_pure (eqReach_c x2 x2) (by simp) (.inr rfl) ?_
    | refine callE_pure (eqReach_c x2 x2) (by simp) (.inl rfl) ?_
  simp -dsimp -implicitDefEqProofs


end Go.Proofs.Ytfmgadchjiplmaa
