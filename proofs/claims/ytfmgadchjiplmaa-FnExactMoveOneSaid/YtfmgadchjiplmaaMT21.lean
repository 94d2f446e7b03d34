/- Contracts of functions of this seat: what each answers, as plain Lean. -/
import Derived.Test.YtfmgadchjiplmaaMT20
set_option linter.all false
namespace Go.Proofs.Ytfmgadchjiplmaa
open Go.RowKit

theorem l07Copy_c (m : Mover) (h : m.small) : PureF Try.prog n_spec_l07Copy [.agg (m.enc.map .c)] (.agg (m.enc.map .c)) := by
  refine pure_of h_spec_l07Copy (by simp) fun hwf => ?_
  simp -dsimp -implicitDefEqProofs [c_spec_l07Copy]
  first
    | refine call_lend (l04Copy_c m.Train h) (by simp) rfl ?_
    | refine call_pure (l04Copy_c m.Train h) (by simp) rfl ?_
    | refine ⟨_, _, l04Copy_c m.Train h, by simp, .inr rfl, ?_⟩
    | refine ⟨_, _, l04Copy_c m.Train h, by simp, .inl rfl, ?_⟩
    | refine callE_pure (l04Copy_c m.Train h) (by simp) (.inr rfl) ?_
    | refine callE_pure (l04Copy_c m.Train h) (by simp) (.inl rfl) ?_
  simp -dsimp -implicitDefEqProofs
theorem MoveOne_spec (m : Mover) (w : Way) (r : Reach) (hm : m.small) : PureF Try.prog n_spec_MoveOne [.agg (m.enc.map .c), .agg (w.enc.map .c), .agg (r.enc.map .c)] (.agg ((MoveOne m w r).enc.map .c)) := by
  refine pure_of h_spec_MoveOne (by simp) fun hwf => ?_
  simp -dsimp -implicitDefEqProofs [c_spec_MoveOne]
  first
    | refine call_lend (l07Copy_c m hm) (by simp) rfl ?_
    | refine call_pure (l07Copy_c m hm) (by simp) rfl ?_
    | refine ⟨_, _, l07Copy_c m hm, by simp, .inr rfl, ?_⟩
    | refine ⟨_, _, l07Copy_c m hm, by simp, .inl rfl, ?_⟩
    | refine callE_pure (l07Copy_c m hm) (by simp) (.inr rfl) ?_
    | refine callE_pure (l07Copy_c m hm) (by simp) (.inl rfl) ?_
  simp -dsimp -implicitDefEqProofs
  first
    | refine call_lend (MoverOk_spec m w hm) (by simp) rfl ?_
    | refine call_pure (MoverOk_spec m w hm) (by simp) rfl ?_
    | refine ⟨_, _, MoverOk_spec m w hm, by simp, .inr rfl, ?_⟩
    | refine ⟨_, _, MoverOk_spec m w hm, by simp, .inl rfl, ?_⟩
    | refine callE_pure (MoverOk_spec m w hm) (by simp) (.inr rfl) ?_
    | refine callE_pure (MoverOk_spec m w hm) (by simp) (.inl rfl) ?_
  cases h1 : MoverOk m w with
  | false => simp -dsimp -implicitDefEqProofs; simp [MoveOne, h1]
  | true =>
    simp -dsimp -implicitDefEqProofs
    first
      | refine call_lend (ReachOk_spec r) (by simp) rfl ?_
      | refine call_pure (ReachOk_spec r) (by simp) rfl ?_
      | refine ⟨_, _, ReachOk_spec r, by simp, .inr rfl, ?_⟩
      | refine ⟨_, _, ReachOk_spec r, by simp, .inl rfl, ?_⟩
      | refine callE_pure (ReachOk_spec r) (by simp) (.inr rfl) ?_
      | refine callE_pure (ReachOk_spec r) (by simp) (.inl rfl) ?_
    cases h2 : ReachOk r with
    | false => simp -dsimp -implicitDefEqProofs; simp [MoveOne, h2]
    | true =>
      simp -dsimp -implicitDefEqProofs
      first
        | refine call_lend (DepthIn_spec w r) (by simp) rfl ?_
        | refine call_pure (DepthIn_spec w r) (by simp) rfl ?_
        | refine ⟨_, _, DepthIn_spec w r, by simp, .inr rfl, ?_⟩
        | refine ⟨_, _, DepthIn_spec w r, by simp, .inl rfl, ?_⟩
        | refine callE_pure (DepthIn_spec w r) (by simp) (.inr rfl) ?_
        | refine callE_pure (DepthIn_spec w r) (by simp) (.inl rfl) ?_
      simp -dsimp -implicitDefEqProofs
      first
        | refine call_lend (PaceOf_spec m.Train (DepthIn w r) hm) (by simp) rfl ?_
        | refine call_pure (PaceOf_spec m.Train (DepthIn w r) hm) (by simp) rfl ?_
        | refine ⟨_, _, PaceOf_spec m.Train (DepthIn w r) hm, by simp, .inr rfl, ?_⟩
        | refine ⟨_, _, PaceOf_spec m.Train (DepthIn w r) hm, by simp, .inl rfl, ?_⟩
        | refine callE_pure (PaceOf_spec m.Train (DepthIn w r) hm) (by simp) (.inr rfl) ?_
        | refine callE_pure (PaceOf_spec m.Train (DepthIn w r) hm) (by simp) (.inl rfl) ?_
      have hp := PaceOf_in2 m.Train (DepthIn w r)
      have hf := moverFacts2 h1
      cases hu : m.Train.Up with
      | true =>
        simp -dsimp -implicitDefEqProofs [hu]
        refine ⟨by unfold inI; omega, ?_⟩
        simp [MoveOne, h1, h2, newPlace, hu]
      | false =>
        simp -dsimp -implicitDefEqProofs [hu]
        refine ⟨by unfold inI; omega, ?_⟩
        simp [MoveOne, h1, h2, newPlace, hu]
theorem FnExactMoveOne_c (x0 : Mover) (x1 : Way) (x2 : Reach) : PureF Try.prog n_laws_FnExactMoveOne [.agg (x0.enc.map .c), .agg (x1.enc.map .c), .agg (x2.enc.map .c)] (.c (.b true)) := by
  refine pure_of h_laws_FnExactMoveOne (by simp) fun hwf => ?_
  simp -dsimp -implicitDefEqProofs [c_laws_FnExactMoveOne]
  first
    | refine call_lend (sz_Mover_c x0 1048576 (by omega) (by omega)) (by simp) rfl ?_
    | refine call_pure (sz_Mover_c x0 1048576 (by omega) (by omega)) (by simp) rfl ?_
    | refine ⟨_, _, sz_Mover_c x0 1048576 (by omega) (by omega), by simp, .inr rfl, ?_⟩
    | refine ⟨_, _, sz_Mover_c x0 1048576 (by omega) (by omega), by simp, .inl rfl, ?_⟩
    | refine callE_pure (sz_Mover_c x0 1048576 (by omega) (by omega)) (by simp) (.inr rfl) ?_
    | refine callE_pure (sz_Mover_c x0 1048576 (by omega) (by omega)) (by simp) (.inl rfl) ?_
  simp -dsimp -implicitDefEqProofs
  intro hsz0
  have hl0 := sz_small sz_Mover_ok (by omega) (by omega) hsz0
  have hle0 := sz_le sz_Mover_ok x0 (by omega) (by omega) hsz0
  first
    | refine call_lend (sz_Reach_c x2 _ hsz0 hle0) (by simp) rfl ?_
    | refine call_pure (sz_Reach_c x2 _ hsz0 hle0) (by simp) rfl ?_
    | refine ⟨_, _, sz_Reach_c x2 _ hsz0 hle0, by simp, .inr rfl, ?_⟩
    | refine ⟨_, _, sz_Reach_c x2 _ hsz0 hle0, by simp, .inl rfl, ?_⟩
    | refine callE_pure (sz_Reach_c x2 _ hsz0 hle0) (by simp) (.inr rfl) ?_
    | refine callE_pure (sz_Reach_c x2 _ hsz0 hle0) (by simp) (.inl rfl) ?_
  simp -dsimp -implicitDefEqProofs
  intro hsz2
  have hl2 := sz_small sz_Reach_ok hsz0 hle0 hsz2
  first
    | refine call_lend (toMover_c x0 hl0) (by simp) rfl ?_
    | refine call_pure (toMover_c x0 hl0) (by simp) rfl ?_
    | refine ⟨_, _, toMover_c x0 hl0, by simp, .inr rfl, ?_⟩
    | refine ⟨_, _, toMover_c x0 hl0, by simp, .inl rfl, ?_⟩
    | refine callE_pure (toMover_c x0 hl0) (by simp) (.inr rfl) ?_
    | refine callE_pure (toMover_c x0 hl0) (by simp) (.inl rfl) ?_
  simp -dsimp -implicitDefEqProofs
  first
    | refine call_lend (toWay_c x1) (by simp) rfl ?_
    | refine call_pure (toWay_c x1) (by simp) rfl ?_
    | refine ⟨_, _, toWay_c x1, by simp, .inr rfl, ?_⟩
    | refine ⟨_, _, toWay_c x1, by simp, .inl rfl, ?_⟩
    | refine callE_pure (toWay_c x1) (by simp) (.inr rfl) ?_
    | refine callE_pure (toWay_c x1) (by simp) (.inl rfl) ?_
  simp -dsimp -implicitDefEqProofs
  first
    | refine call_lend (toReach_c x2 hl2) (by simp) rfl ?_
    | refine call_pure (toReach_c x2 hl2) (by simp) rfl ?_
    | refine ⟨_, _, toReach_c x2 hl2, by simp, .inr rfl, ?_⟩
    | refine ⟨_, _, toReach_c x2 hl2, by simp, .inl rfl, ?_⟩
    | refine callE_pure (toReach_c x2 hl2) (by simp) (.inr rfl) ?_
    | refine callE_pure (toReach_c x2 hl2) (by simp) (.inl rfl) ?_
  simp -dsimp -implicitDefEqProofs
  first
    | refine call_lend (MoveOne_spec x0 x1 x2 hl0) (by simp) rfl ?_
    | refine call_pure (MoveOne_spec x0 x1 x2 hl0) (by simp) rfl ?_
    | refine ⟨_, _, MoveOne_spec x0 x1 x2 hl0, by simp, .inr rfl, ?_⟩
    | refine ⟨_, _, MoveOne_spec x0 x1 x2 hl0, by simp, .inl rfl, ?_⟩
    | refine callE_pure (MoveOne_spec x0 x1 x2 hl0) (by simp) (.inr rfl) ?_
    | refine callE_pure (MoveOne_spec x0 x1 x2 hl0) (by simp) (.inl rfl) ?_
  simp -dsimp -implicitDefEqProofs
  refine call_own (toMover_o x0 hl0) (by simp) (by simp [AV.closed, AV.closed1, C.closed, eo_BoatS]) (by simp [freshO]) ?_
  simp -dsimp -implicitDefEqProofs
  first
    | refine call_own (toReach_o x2 hl2) (by simp ) (by simp [AV.closed, AV.closed1, C.closed]) (by simp [freshO]) ?_
    | refine callE_own (toReach_o x2 hl2) (by simp ) (by simp [AV.closed, AV.closed1, C.closed]) (by simp [freshO]) ?_
  simp -dsimp -implicitDefEqProofs
  first
    | refine call_lend (toWay_c x1) (by simp) rfl ?_
    | refine call_pure (toWay_c x1) (by simp) rfl ?_
    | refine ⟨_, _, toWay_c x1, by simp, .inr rfl, ?_⟩
    | refine ⟨_, _, toWay_c x1, by simp, .inl rfl, ?_⟩
    | refine callE_pure (toWay_c x1) (by simp) (.inr rfl) ?_
    | refine callE_pure (toWay_c x1) (by simp) (.inl rfl) ?_
  simp -dsimp -implicitDefEqProofs
  refine callE_own (MoveOne_impl x0 x1 x2 hl0) (by simp [take_full, shrs_map eo_BoatS_shr]) (by simp [AV.closed, AV.closed1, C.closed, eo_BoatS]) (by simp [freshO]) ?_
  simp -dsimp -implicitDefEqProofs
  first
    | refine call_lend (eqMover_c (MoveOne x0 x1 x2) (MoveOne x0 x1 x2)) (by simp [take_full, shrs_map eo_BoatS_shr]) rfl ?_
    | refine call_pure (eqMover_c (MoveOne x0 x1 x2) (MoveOne x0 x1 x2)) (by simp [take_full, shrs_map eo_BoatS_shr]) rfl ?_
    | refine ⟨_, _, eqMover_c (MoveOne x0 x1 x2) (MoveOne x0 x1 x2), by simp [take_full, shrs_map eo_BoatS_shr], .inr rfl, ?_⟩
    | refine ⟨_, _, eqMover_c (MoveOne x0 x1 x2) (MoveOne x0 x1 x2), by simp [take_full, shrs_map eo_BoatS_shr], .inl rfl, ?_⟩
    | refine callE_pure (eqMover_c (MoveOne x0 x1 x2) (MoveOne x0 x1 x2)) (by simp [take_full, shrs_map eo_BoatS_shr]) (.inr rfl) ?_
    | refine callE_pure (eqMover_c (MoveOne x0 x1 x2) (MoveOne x0 x1 x2)) (by simp [take_full, shrs_map eo_BoatS_shr]) (.inl rfl) ?_
  simp -dsimp -implicitDefEqProofs
  first
    | refine call_lend (toMover_c x0 hl0) (by simp) rfl ?_
    | refine call_pure (toMover_c x0 hl0) (by simp) rfl ?_
    | refine ⟨_, _, toMover_c x0 hl0, by simp, .inr rfl, ?_⟩
    | refine ⟨_, _, toMover_c x0 hl0, by simp, .inl rfl, ?_⟩
    | refine callE_pure (toMover_c x0 hl0) (by simp) (.inr rfl) ?_
    | refine callE_pure (toMover_c x0 hl0) (by simp) (.inl rfl) ?_
  simp -dsimp -implicitDefEqProofs
  first
    | refine call_lend (eqMover_c x0 x0) (by simp [take_full, shrs_map eo_BoatS_shr]) rfl ?_
    | refine call_pure (eqMover_c x0 x0) (by simp [take_full, shrs_map eo_BoatS_shr]) rfl ?_
    | refine ⟨_, _, eqMover_c x0 x0, by simp [take_full, shrs_map eo_BoatS_shr], .inr rfl, ?_⟩
    | refine ⟨_, _, eqMover_c x0 x0, by simp [take_full, shrs_map eo_BoatS_shr], .inl rfl, ?_⟩
    | refine callE_pure (eqMover_c x0 x0) (by simp [take_full, shrs_map eo_BoatS_shr]) (.inr rfl) ?_
    | refine callE_pure (eqMover_c x0 x0) (by simp [take_full, shrs_map eo_BoatS_shr]) (.inl rfl) ?_
  simp -dsimp -implicitDefEqProofs
  first
    | refine call_lend (toReach_c x2 hl2) (by simp) rfl ?_
    | refine call_pure (toReach_c x2 hl2) (by simp) rfl ?_
    | refine ⟨_, _, toReach_c x2 hl2, by simp, .inr rfl, ?_⟩
    | refine ⟨_, _, toReach_c x2 hl2, by simp, .inl rfl, ?_⟩
    | refine callE_pure (toReach_c x2 hl2) (by simp) (.inr rfl) ?_
    | refine callE_pure (toReach_c x2 hl2) (by simp) (.inl rfl) ?_
  simp -dsimp -implicitDefEqProofs
  first
    | refine call_lend (eqReach_c x2 x2) (by simp [take_full]) rfl ?_
    | refine call_pure (eqReach_c x2 x2) (by simp [take_full]) rfl ?_
    | refine ⟨_, _, eqReach_c x2 x2, by simp [take_full], .inr rfl, ?_⟩
    | refine ⟨_, _, eqReach_c x2 x2, by simp [take_full], .inl rfl, ?_⟩
    | refine callE_pure (eqReach_c x2 x2) (by simp [take_full]) (.inr rfl) ?_
    | refine callE_pure (eqReach_c x2 x2) (by simp [take_full]) (.inl rfl) ?_
  simp -dsimp -implicitDefEqProofs
  have hM := cntB_le hl0
  have hR := nR_le hl2
  have hR0 : 0 ≤ nR x2 := by unfold nR; omega
  refine call_inA (ups := [none, some (20034, .tr 1 1 (seqM fB nB 1 x0.Train.Rows)), none]) (markMover_c x0 1 (by omega) (by omega)) (by simp) rfl rfl
    ⟨ioC_c rfl, ioC_tr (rows := x0.Train.Rows.map eo_BoatS) (by simp) rfl rfl rfl (by simp) (by simp [seqM_len]) rfl rfl, ioC_c rfl, trivial⟩ (by simp [upIds]) ?_
  simp -dsimp -implicitDefEqProofs
  refine call_inA (ups := [some (10036, .row 2 (marked mkP 2 [] (1 + cnt nB x0.Train.Rows) x2.Table.length)), none, some (30036, .row 1 (marked ienc 1 [] (1 + cnt nB x0.Train.Rows + 2 * x2.Table.length) x2.Pipe.length))]) (markReach_c x2 (1 + cnt nB x0.Train.Rows) (by omega) (by omega)) (by simp) rfl rfl
    ⟨ioC_row (rows := x2.Table.map Point.enc) (by simp) rfl rfl (by simp) (by simp [marked_n]) rfl rfl, ioC_c rfl, ioC_row (rows := x2.Pipe.map ienc) (by simp) rfl rfl (by simp) (by simp [marked_n]) rfl rfl, trivial⟩ (by simp [upIds]) ?_
  have n1 : (1 + (cnt nB x0.Train.Rows : Int) + nR x2 < 0) = False := by simp; omega
  simp -dsimp -implicitDefEqProofs [n1]
  first
    | refine call_lend (eqMover_c (MoveOne x0 x1 x2) (MoveOne x0 x1 x2)) (by simp [take_full, shrs_map eo_BoatS_shr]) rfl ?_
    | refine call_pure (eqMover_c (MoveOne x0 x1 x2) (MoveOne x0 x1 x2)) (by simp [take_full, shrs_map eo_BoatS_shr]) rfl ?_
    | refine ⟨_, _, eqMover_c (MoveOne x0 x1 x2) (MoveOne x0 x1 x2), by simp [take_full, shrs_map eo_BoatS_shr], .inr rfl, ?_⟩
    | refine ⟨_, _, eqMover_c (MoveOne x0 x1 x2) (MoveOne x0 x1 x2), by simp [take_full, shrs_map eo_BoatS_shr], .inl rfl, ?_⟩
    | refine callE_pure (eqMover_c (MoveOne x0 x1 x2) (MoveOne x0 x1 x2)) (by simp [take_full, shrs_map eo_BoatS_shr]) (.inr rfl) ?_
    | refine callE_pure (eqMover_c (MoveOne x0 x1 x2) (MoveOne x0 x1 x2)) (by simp [take_full, shrs_map eo_BoatS_shr]) (.inl rfl) ?_
  simp -dsimp -implicitDefEqProofs
  have hT := MoveOne_train (m := x0) (w := x1) (r := x2)
  refine call_inA (ups := [none, some (20041, .tr 1 1 (seqM fB nB 1 (MoveOne x0 x1 x2).Train.Rows)), none]) (markMover_c (MoveOne x0 x1 x2) 1 (by omega) (by rw [hT]; omega)) (by simp) rfl rfl
    ⟨ioC_c rfl, ioC_tr (rows := (MoveOne x0 x1 x2).Train.Rows.map eo_BoatS) (by simp) rfl rfl rfl (by simp) (by simp [seqM_len]) rfl rfl, ioC_c rfl, trivial⟩ (by simp [upIds]) ?_
  simp -dsimp -implicitDefEqProofs
  have hts : (seqM fB nB 1 (MoveOne x0 x1 x2).Train.Rows).take (MoveOne x0 x1 x2).Train.Rows.length = seqM fB nB 1 (MoveOne x0 x1 x2).Train.Rows := List.take_of_length_le (by rw [seqM_len]; exact Nat.le_refl _)
  first
    | refine call_lend (heldMover_c (MoveOne x0 x1 x2) (MoveOne x0 x1 x2).Train.Up (MoveOne x0 x1 x2).Place 1 (by omega) (by rw [hT]; omega)) (by simp [hts, shrs_seq fB_shr]) rfl ?_
    | refine call_pure (heldMover_c (MoveOne x0 x1 x2) (MoveOne x0 x1 x2).Train.Up (MoveOne x0 x1 x2).Place 1 (by omega) (by rw [hT]; omega)) (by simp [hts, shrs_seq fB_shr]) rfl ?_
    | refine ⟨_, _, heldMover_c (MoveOne x0 x1 x2) (MoveOne x0 x1 x2).Train.Up (MoveOne x0 x1 x2).Place 1 (by omega) (by rw [hT]; omega), by simp [hts, shrs_seq fB_shr], .inr rfl, ?_⟩
    | refine ⟨_, _, heldMover_c (MoveOne x0 x1 x2) (MoveOne x0 x1 x2).Train.Up (MoveOne x0 x1 x2).Place 1 (by omega) (by rw [hT]; omega), by simp [hts, shrs_seq fB_shr], .inl rfl, ?_⟩
    | refine callE_pure (heldMover_c (MoveOne x0 x1 x2) (MoveOne x0 x1 x2).Train.Up (MoveOne x0 x1 x2).Place 1 (by omega) (by rw [hT]; omega)) (by simp [hts, shrs_seq fB_shr]) (.inr rfl) ?_
    | refine callE_pure (heldMover_c (MoveOne x0 x1 x2) (MoveOne x0 x1 x2).Train.Up (MoveOne x0 x1 x2).Place 1 (by omega) (by rw [hT]; omega)) (by simp [hts, shrs_seq fB_shr]) (.inl rfl) ?_
  have n2 : (1 + (cnt nB (MoveOne x0 x1 x2).Train.Rows : Int) < 0) = False := by simp; omega
  simp -dsimp -implicitDefEqProofs [n2]
  first
    | refine call_lend (toMover_c x0 hl0) (by simp) rfl ?_
    | refine call_pure (toMover_c x0 hl0) (by simp) rfl ?_
    | refine ⟨_, _, toMover_c x0 hl0, by simp, .inr rfl, ?_⟩
    | refine ⟨_, _, toMover_c x0 hl0, by simp, .inl rfl, ?_⟩
    | refine callE_pure (toMover_c x0 hl0) (by simp) (.inr rfl) ?_
    | refine callE_pure (toMover_c x0 hl0) (by simp) (.inl rfl) ?_
  simp -dsimp -implicitDefEqProofs
  first
    | refine call_lend (toWay_c x1) (by simp) rfl ?_
    | refine call_pure (toWay_c x1) (by simp) rfl ?_
    | refine ⟨_, _, toWay_c x1, by simp, .inr rfl, ?_⟩
    | refine ⟨_, _, toWay_c x1, by simp, .inl rfl, ?_⟩
    | refine callE_pure (toWay_c x1) (by simp) (.inr rfl) ?_
    | refine callE_pure (toWay_c x1) (by simp) (.inl rfl) ?_
  simp -dsimp -implicitDefEqProofs
  first
    | refine call_lend (toReach_c x2 hl2) (by simp) rfl ?_
    | refine call_pure (toReach_c x2 hl2) (by simp) rfl ?_
    | refine ⟨_, _, toReach_c x2 hl2, by simp, .inr rfl, ?_⟩
    | refine ⟨_, _, toReach_c x2 hl2, by simp, .inl rfl, ?_⟩
    | refine callE_pure (toReach_c x2 hl2) (by simp) (.inr rfl) ?_
    | refine callE_pure (toReach_c x2 hl2) (by simp) (.inl rfl) ?_
  simp -dsimp -implicitDefEqProofs
  first
    | refine call_lend (MoveOne_implP x0 x1 x2 hl0) (by simp) rfl ?_
    | refine call_pure (MoveOne_implP x0 x1 x2 hl0) (by simp) rfl ?_
    | refine ⟨_, _, MoveOne_implP x0 x1 x2 hl0, by simp, .inr rfl, ?_⟩
    | refine ⟨_, _, MoveOne_implP x0 x1 x2 hl0, by simp, .inl rfl, ?_⟩
    | refine callE_pure (MoveOne_implP x0 x1 x2 hl0) (by simp) (.inr rfl) ?_
    | refine callE_pure (MoveOne_implP x0 x1 x2 hl0) (by simp) (.inl rfl) ?_
  simp -dsimp -implicitDefEqProofs
  first
    | refine call_lend (eqMover_c (MoveOne x0 x1 x2) (MoveOne x0 x1 x2)) (by simp) rfl ?_
    | refine call_pure (eqMover_c (MoveOne x0 x1 x2) (MoveOne x0 x1 x2)) (by simp) rfl ?_
    | refine ⟨_, _, eqMover_c (MoveOne x0 x1 x2) (MoveOne x0 x1 x2), by simp, .inr rfl, ?_⟩
    | refine ⟨_, _, eqMover_c (MoveOne x0 x1 x2) (MoveOne x0 x1 x2), by simp, .inl rfl, ?_⟩
    | refine callE_pure (eqMover_c (MoveOne x0 x1 x2) (MoveOne x0 x1 x2)) (by simp) (.inr rfl) ?_
    | refine callE_pure (eqMover_c (MoveOne x0 x1 x2) (MoveOne x0 x1 x2)) (by simp) (.inl rfl) ?_
  simp -dsimp -implicitDefEqProofs
  first
    | refine call_lend (heldMover_c (MoveOne x0 x1 x2) (MoveOne x0 x1 x2).Train.Up (MoveOne x0 x1 x2).Place 1 (by omega) (by rw [hT]; omega)) (by simp [hts, shrs_seq fB_shr]) rfl ?_
    | refine call_pure (heldMover_c (MoveOne x0 x1 x2) (MoveOne x0 x1 x2).Train.Up (MoveOne x0 x1 x2).Place 1 (by omega) (by rw [hT]; omega)) (by simp [hts, shrs_seq fB_shr]) rfl ?_
    | refine ⟨_, _, heldMover_c (MoveOne x0 x1 x2) (MoveOne x0 x1 x2).Train.Up (MoveOne x0 x1 x2).Place 1 (by omega) (by rw [hT]; omega), by simp [hts, shrs_seq fB_shr], .inr rfl, ?_⟩
    | refine ⟨_, _, heldMover_c (MoveOne x0 x1 x2) (MoveOne x0 x1 x2).Train.Up (MoveOne x0 x1 x2).Place 1 (by omega) (by rw [hT]; omega), by simp [hts, shrs_seq fB_shr], .inl rfl, ?_⟩
    | refine callE_pure (heldMover_c (MoveOne x0 x1 x2) (MoveOne x0 x1 x2).Train.Up (MoveOne x0 x1 x2).Place 1 (by omega) (by rw [hT]; omega)) (by simp [hts, shrs_seq fB_shr]) (.inr rfl) ?_
    | refine callE_pure (heldMover_c (MoveOne x0 x1 x2) (MoveOne x0 x1 x2).Train.Up (MoveOne x0 x1 x2).Place 1 (by omega) (by rw [hT]; omega)) (by simp [hts, shrs_seq fB_shr]) (.inl rfl) ?_
  simp -dsimp -implicitDefEqProofs [n2]

end Go.Proofs.Ytfmgadchjiplmaa
