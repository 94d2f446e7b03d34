/- Contracts of functions of this seat: what each answers, as plain Lean. -/
import Derived.Test.YtfmgadchjiplmaaMT16
set_option linter.all false
namespace Go.Proofs.Ytfmgadchjiplmaa
open Go.RowKit

theorem cnt_le {α : Type} {n : α → Nat} {B : Nat} : ∀ {l : List α}, (∀ x ∈ l, n x ≤ B) → cnt n l ≤ l.length * B
  | [], _ => by simp [cnt]
  | x :: l, h => by
    have h1 := cnt_le (l := l) fun y hy => h y (by simp [hy])
    have h2 := h x (by simp)
    simp only [cnt, List.map_cons, List.sum_cons, List.length_cons, Nat.add_mul, Nat.one_mul] at h1 ⊢; omega
theorem cntB_le {l : List (List Boat)} (h : small_BoatSS l) : cnt nB l ≤ 6597069766656 := by
  have h1 := cnt_le (n := nB) (B := 6291456) (l := l) fun x hx => by have := (h.2 x hx).1; unfold nB; omega
  have h2 := Nat.mul_le_mul_right 6291456 h.1
  omega
theorem cntM_le {l : List Mover} (h : small_MoverS l) : cnt nM l ≤ 6917529027643179008 := by
  have h1 := cnt_le (n := nM) (B := 6597069766658) (l := l) fun x hx => by have := cntB_le (h.2 x hx); unfold nM; omega
  have h2 := Nat.mul_le_mul_right 6597069766658 h.1
  omega
theorem nR_le {r : Reach} (h : r.small) : nR r ≤ 3145728 := by
  have h1 := h.1.1; have h2 := h.2.1
  unfold nR; omega
theorem FnExactGroundedOf_c (x0 : List Mover) (x1 : Way) (x2 : Reach) : PureF Try.prog n_laws_FnExactGroundedOf [.c (.sl 3 (x0.map Mover.enc)), .agg (x1.enc.map .c), .agg (x2.enc.map .c)] (.c (.b true)) := by
  refine pure_of h_laws_FnExactGroundedOf (by simp) fun hwf => ?_
  simp -dsimp -implicitDefEqProofs [c_laws_FnExactGroundedOf]
  first
    | refine call_lend (sz_MoverS_c x0 1048576 (by omega) (by omega)) (by simp) rfl ?_
    | refine call_pure (sz_MoverS_c x0 1048576 (by omega) (by omega)) (by simp) rfl ?_
    | refine ⟨_, _, sz_MoverS_c x0 1048576 (by omega) (by omega), by simp, .inr rfl, ?_⟩
    | refine ⟨_, _, sz_MoverS_c x0 1048576 (by omega) (by omega), by simp, .inl rfl, ?_⟩
    | refine callE_pure (sz_MoverS_c x0 1048576 (by omega) (by omega)) (by simp) (.inr rfl) ?_
    | refine callE_pure (sz_MoverS_c x0 1048576 (by omega) (by omega)) (by simp) (.inl rfl) ?_
  simp -dsimp -implicitDefEqProofs
  intro hsz0
  have hl0 := sz_small sz_MoverS_ok (by omega) (by omega) hsz0
  have hle0 := sz_le sz_MoverS_ok x0 (by omega) (by omega) hsz0
  first
    | refine call_lend (sz_Reach_c x2 _ hsz0 hle0) (by simp) rfl ?_
    | refine call_pure (sz_Reach_c x2 _ hsz0 hle0) (by simp) rfl ?_
    | refine ⟨_, _, sz_Reach_c x2 _ hsz0 hle0, by simp, .inr rfl, ?_⟩
    | refine ⟨_, _, sz_Reach_c x2 _ hsz0 hle0, by simp, .inl rfl, ?_⟩
    | refine callE_pure (sz_Reach_c x2 _ hsz0 hle0) (by simp) (.inr rfl) ?_
    | refine callE_pure (sz_Reach_c x2 _ hsz0 hle0) (by simp) (.inl rfl) ?_
  simp -dsimp -implicitDefEqProofs
  intro hsz2
  have hl2 := sz_small sz_Reach_ok hsz0 hle0 hsz2
  first
    | refine call_lend (toMoverS_c x0 hl0) (by simp) rfl ?_
    | refine call_pure (toMoverS_c x0 hl0) (by simp) rfl ?_
    | refine ⟨_, _, toMoverS_c x0 hl0, by simp, .inr rfl, ?_⟩
    | refine ⟨_, _, toMoverS_c x0 hl0, by simp, .inl rfl, ?_⟩
    | refine callE_pure (toMoverS_c x0 hl0) (by simp) (.inr rfl) ?_
    | refine callE_pure (toMoverS_c x0 hl0) (by simp) (.inl rfl) ?_
  simp -dsimp -implicitDefEqProofs
  first
    | refine call_lend (toWay_c x1) (by simp) rfl ?_
    | refine call_pure (toWay_c x1) (by simp) rfl ?_
    | refine ⟨_, _, toWay_c x1, by simp, .inr rfl, ?_⟩
    | refine ⟨_, _, toWay_c x1, by simp, .inl rfl, ?_⟩
    | refine callE_pure (toWay_c x1) (by simp) (.inr rfl) ?_
    | refine callE_pure (toWay_c x1) (by simp) (.inl rfl) ?_
  simp -dsimp -implicitDefEqProofs
  first
    | refine call_lend (toReach_c x2 hl2) (by simp) rfl ?_
    | refine call_pure (toReach_c x2 hl2) (by simp) rfl ?_
    | refine ⟨_, _, toReach_c x2 hl2, by simp, .inr rfl, ?_⟩
    | refine ⟨_, _, toReach_c x2 hl2, by simp, .inl rfl, ?_⟩
    | refine callE_pure (toReach_c x2 hl2) (by simp) (.inr rfl) ?_
    | refine callE_pure (toReach_c x2 hl2) (by simp) (.inl rfl) ?_
  simp -dsimp -implicitDefEqProofs
  first
    | refine call_lend (GroundedOf_spec x0 x1 x2 hl0) (by simp) rfl ?_
    | refine call_pure (GroundedOf_spec x0 x1 x2 hl0) (by simp) rfl ?_
    | refine ⟨_, _, GroundedOf_spec x0 x1 x2 hl0, by simp, .inr rfl, ?_⟩
    | refine ⟨_, _, GroundedOf_spec x0 x1 x2 hl0, by simp, .inl rfl, ?_⟩
    | refine callE_pure (GroundedOf_spec x0 x1 x2 hl0) (by simp) (.inr rfl) ?_
    | refine callE_pure (GroundedOf_spec x0 x1 x2 hl0) (by simp) (.inl rfl) ?_
  simp -dsimp -implicitDefEqProofs
  refine call_own (toMoverS_o x0 hl0) (by simp) (by simp [AV.closed, AV.closed1, C.closed, eo_BoatS]) (by simp [freshO]) ?_
  simp -dsimp -implicitDefEqProofs
  first
    | refine call_own (toReach_o x2 hl2) (by simp ) (by simp [AV.closed, AV.closed1, C.closed]) (by simp [freshO]) ?_
    | refine callE_own (toReach_o x2 hl2) (by simp ) (by simp [AV.closed, AV.closed1, C.closed]) (by simp [freshO]) ?_
  simp -dsimp -implicitDefEqProofs
  first
    | refine call_lend (toWay_c x1) (by simp) rfl ?_
    | refine call_pure (toWay_c x1) (by simp) rfl ?_
    | refine ⟨_, _, toWay_c x1, by simp, .inr rfl, ?_⟩
    | refine ⟨_, _, toWay_c x1, by simp, .inl rfl, ?_⟩
    | refine callE_pure (toWay_c x1) (by simp) (.inr rfl) ?_
    | refine callE_pure (toWay_c x1) (by simp) (.inl rfl) ?_
  simp -dsimp -implicitDefEqProofs
  refine callE_own (GroundedOf_impl x0 x1 x2 hl0) (by simp [take_full, shrs_map Mover.oenc_shr]) (by simp [AV.closed, AV.closed1, C.closed]) (by simp [freshO]) ?_
  simp -dsimp -implicitDefEqProofs
  first
    | refine call_lend (eqIntS_c (GroundedOf x0 x1 x2) (GroundedOf x0 x1 x2)) (by simp [take_full]) rfl ?_
    | refine call_pure (eqIntS_c (GroundedOf x0 x1 x2) (GroundedOf x0 x1 x2)) (by simp [take_full]) rfl ?_
    | refine ⟨_, _, eqIntS_c (GroundedOf x0 x1 x2) (GroundedOf x0 x1 x2), by simp [take_full], .inr rfl, ?_⟩
    | refine ⟨_, _, eqIntS_c (GroundedOf x0 x1 x2) (GroundedOf x0 x1 x2), by simp [take_full], .inl rfl, ?_⟩
    | refine callE_pure (eqIntS_c (GroundedOf x0 x1 x2) (GroundedOf x0 x1 x2)) (by simp [take_full]) (.inr rfl) ?_
    | refine callE_pure (eqIntS_c (GroundedOf x0 x1 x2) (GroundedOf x0 x1 x2)) (by simp [take_full]) (.inl rfl) ?_
  simp -dsimp -implicitDefEqProofs
  first
    | refine call_lend (toMoverS_c x0 hl0) (by simp) rfl ?_
    | refine call_pure (toMoverS_c x0 hl0) (by simp) rfl ?_
    | refine ⟨_, _, toMoverS_c x0 hl0, by simp, .inr rfl, ?_⟩
    | refine ⟨_, _, toMoverS_c x0 hl0, by simp, .inl rfl, ?_⟩
    | refine callE_pure (toMoverS_c x0 hl0) (by simp) (.inr rfl) ?_
    | refine callE_pure (toMoverS_c x0 hl0) (by simp) (.inl rfl) ?_
  simp -dsimp -implicitDefEqProofs
  first
    | refine call_lend (eqMoverS_c x0 x0) (by simp [take_full, shrs_map Mover.oenc_shr]) rfl ?_
    | refine call_pure (eqMoverS_c x0 x0) (by simp [take_full, shrs_map Mover.oenc_shr]) rfl ?_
    | refine ⟨_, _, eqMoverS_c x0 x0, by simp [take_full, shrs_map Mover.oenc_shr], .inr rfl, ?_⟩
    | refine ⟨_, _, eqMoverS_c x0 x0, by simp [take_full, shrs_map Mover.oenc_shr], .inl rfl, ?_⟩
    | refine callE_pure (eqMoverS_c x0 x0) (by simp [take_full, shrs_map Mover.oenc_shr]) (.inr rfl) ?_
    | refine callE_pure (eqMoverS_c x0 x0) (by simp [take_full, shrs_map Mover.oenc_shr]) (.inl rfl) ?_
  simp -dsimp -implicitDefEqProofs
  first
    | refine call_lend (toReach_c x2 hl2) (by simp) rfl ?_
    | refine call_pure (toReach_c x2 hl2) (by simp) rfl ?_
    | refine ⟨_, _, toReach_c x2 hl2, by simp, .inr rfl, ?_⟩
    | refine ⟨_, _, toReach_c x2 hl2, by simp, .inl rfl, ?_⟩
    | refine callE_pure (toReach_c x2 hl2) (by simp) (.inr rfl) ?_
    | refine callE_pure (toReach_c x2 hl2) (by simp) (.inl rfl) ?_
  simp -dsimp -implicitDefEqProofs
  first
    | refine call_lend (eqReach_c x2 x2) (by simp [take_full]) rfl ?_
    | refine call_pure (eqReach_c x2 x2) (by simp [take_full]) rfl ?_
    | refine ⟨_, _, eqReach_c x2 x2, by simp [take_full], .inr rfl, ?_⟩
    | refine ⟨_, _, eqReach_c x2 x2, by simp [take_full], .inl rfl, ?_⟩
    | refine callE_pure (eqReach_c x2 x2) (by simp [take_full]) (.inr rfl) ?_
    | refine callE_pure (eqReach_c x2 x2) (by simp [take_full]) (.inl rfl) ?_
  simp -dsimp -implicitDefEqProofs
  have hM := cntM_le hl0
  have hR := nR_le hl2
  refine call_in1 (up := some (34, .tr 3 1 (seqM fM nM 1 x0))) (markMoverS_c x0 1 (by omega) (by omega)) (by simp) rfl rfl (ioC_tr (rows := x0.map Mover.oenc) (by simp) rfl rfl rfl (by simp) (by simp [seqM_len]) rfl rfl) ?_
  simp -dsimp -implicitDefEqProofs
  refine call_inA (ups := [some (10036, .row 2 (marked mkP 2 [] (1 + cnt nM x0) x2.Table.length)), none, some (30036, .row 1 (marked ienc 1 [] (1 + cnt nM x0 + 2 * x2.Table.length) x2.Pipe.length))]) (markReach_c x2 (1 + cnt nM x0) (by omega) (by omega)) (by simp) rfl rfl
    ⟨ioC_row (rows := x2.Table.map Point.enc) (by simp) rfl rfl (by simp) (by simp [marked_n]) rfl rfl, ioC_c rfl, ioC_row (rows := x2.Pipe.map ienc) (by simp) rfl rfl (by simp) (by simp [marked_n]) rfl rfl, trivial⟩ (by simp [upIds]) ?_
  have hR0 : 0 ≤ nR x2 := by unfold nR; omega
  have n1 : (1 + (cnt nM x0 : Int) + nR x2 < 0) = False := by simp; omega
  simp -dsimp -implicitDefEqProofs [n1]
  first
    | refine call_lend (eqIntS_c (GroundedOf x0 x1 x2) (GroundedOf x0 x1 x2)) (by simp [take_full]) rfl ?_
    | refine call_pure (eqIntS_c (GroundedOf x0 x1 x2) (GroundedOf x0 x1 x2)) (by simp [take_full]) rfl ?_
    | refine ⟨_, _, eqIntS_c (GroundedOf x0 x1 x2) (GroundedOf x0 x1 x2), by simp [take_full], .inr rfl, ?_⟩
    | refine ⟨_, _, eqIntS_c (GroundedOf x0 x1 x2) (GroundedOf x0 x1 x2), by simp [take_full], .inl rfl, ?_⟩
    | refine callE_pure (eqIntS_c (GroundedOf x0 x1 x2) (GroundedOf x0 x1 x2)) (by simp [take_full]) (.inr rfl) ?_
    | refine callE_pure (eqIntS_c (GroundedOf x0 x1 x2) (GroundedOf x0 x1 x2)) (by simp [take_full]) (.inl rfl) ?_
  simp -dsimp -implicitDefEqProofs
  have hbl := GroundedOf_len x0 x1 x2
  have hl1 := hl0.1
  refine call_in1 (up := some (41, .row 1 (marked ienc 1 [] 1 (GroundedOf x0 x1 x2).length))) (markIntS_c (GroundedOf x0 x1 x2) 1 (by omega) (by omega)) (by simp) rfl rfl (ioC_row (rows := (GroundedOf x0 x1 x2).map ienc) (by simp) rfl rfl (by simp) (by simp [marked_n]) rfl rfl) ?_
  simp -dsimp -implicitDefEqProofs
  first
    | refine call_lend (heldIntS_c (GroundedOf x0 x1 x2).length 1 (by omega) (by omega)) (by simp [take_marked]) rfl ?_
    | refine call_pure (heldIntS_c (GroundedOf x0 x1 x2).length 1 (by omega) (by omega)) (by simp [take_marked]) rfl ?_
    | refine ⟨_, _, heldIntS_c (GroundedOf x0 x1 x2).length 1 (by omega) (by omega), by simp [take_marked], .inr rfl, ?_⟩
    | refine ⟨_, _, heldIntS_c (GroundedOf x0 x1 x2).length 1 (by omega) (by omega), by simp [take_marked], .inl rfl, ?_⟩
    | refine callE_pure (heldIntS_c (GroundedOf x0 x1 x2).length 1 (by omega) (by omega)) (by simp [take_marked]) (.inr rfl) ?_
    | refine callE_pure (heldIntS_c (GroundedOf x0 x1 x2).length 1 (by omega) (by omega)) (by simp [take_marked]) (.inl rfl) ?_
  have n2 : (1 + ((GroundedOf x0 x1 x2).length : Int) < 0) = False := by simp; omega
  simp -dsimp -implicitDefEqProofs [n2]
  first
    | refine call_lend (toMoverS_c x0 hl0) (by simp) rfl ?_
    | refine call_pure (toMoverS_c x0 hl0) (by simp) rfl ?_
    | refine ⟨_, _, toMoverS_c x0 hl0, by simp, .inr rfl, ?_⟩
    | refine ⟨_, _, toMoverS_c x0 hl0, by simp, .inl rfl, ?_⟩
    | refine callE_pure (toMoverS_c x0 hl0) (by simp) (.inr rfl) ?_
    | refine callE_pure (toMoverS_c x0 hl0) (by simp) (.inl rfl) ?_
  simp -dsimp -implicitDefEqProofs
  first
    | refine call_lend (toWay_c x1) (by simp) rfl ?_
    | refine call_pure (toWay_c x1) (by simp) rfl ?_
    | refine ⟨_, _, toWay_c x1, by simp, .inr rfl, ?_⟩
    | refine ⟨_, _, toWay_c x1, by simp, .inl rfl, ?_⟩
    | refine callE_pure (toWay_c x1) (by simp) (.inr rfl) ?_
    | refine callE_pure (toWay_c x1) (by simp) (.inl rfl) ?_
  simp -dsimp -implicitDefEqProofs
  first
    | refine call_lend (toReach_c x2 hl2) (by simp) rfl ?_
    | refine call_pure (toReach_c x2 hl2) (by simp) rfl ?_
    | refine ⟨_, _, toReach_c x2 hl2, by simp, .inr rfl, ?_⟩
    | refine ⟨_, _, toReach_c x2 hl2, by simp, .inl rfl, ?_⟩
    | refine callE_pure (toReach_c x2 hl2) (by simp) (.inr rfl) ?_
    | refine callE_pure (toReach_c x2 hl2) (by simp) (.inl rfl) ?_
  simp -dsimp -implicitDefEqProofs
  first
    | refine call_lend (GroundedOf_implP x0 x1 x2 hl0) (by simp) rfl ?_
    | refine call_pure (GroundedOf_implP x0 x1 x2 hl0) (by simp) rfl ?_
    | refine ⟨_, _, GroundedOf_implP x0 x1 x2 hl0, by simp, .inr rfl, ?_⟩
    | refine ⟨_, _, GroundedOf_implP x0 x1 x2 hl0, by simp, .inl rfl, ?_⟩
    | refine callE_pure (GroundedOf_implP x0 x1 x2 hl0) (by simp) (.inr rfl) ?_
    | refine callE_pure (GroundedOf_implP x0 x1 x2 hl0) (by simp) (.inl rfl) ?_
  simp -dsimp -implicitDefEqProofs
  first
    | refine call_lend (eqIntS_c (GroundedOf x0 x1 x2) (GroundedOf x0 x1 x2)) (by simp [take_full]) rfl ?_
    | refine call_pure (eqIntS_c (GroundedOf x0 x1 x2) (GroundedOf x0 x1 x2)) (by simp [take_full]) rfl ?_
    | refine ⟨_, _, eqIntS_c (GroundedOf x0 x1 x2) (GroundedOf x0 x1 x2), by simp [take_full], .inr rfl, ?_⟩
    | refine ⟨_, _, eqIntS_c (GroundedOf x0 x1 x2) (GroundedOf x0 x1 x2), by simp [take_full], .inl rfl, ?_⟩
    | refine callE_pure (eqIntS_c (GroundedOf x0 x1 x2) (GroundedOf x0 x1 x2)) (by simp [take_full]) (.inr rfl) ?_
    | refine callE_pure (eqIntS_c (GroundedOf x0 x1 x2) (GroundedOf x0 x1 x2)) (by simp [take_full]) (.inl rfl) ?_
  simp -dsimp -implicitDefEqProofs
  first
    | refine call_lend (heldIntS_c (GroundedOf x0 x1 x2).length 1 (by omega) (by omega)) (by simp [take_marked]) rfl ?_
    | refine call_pure (heldIntS_c (GroundedOf x0 x1 x2).length 1 (by omega) (by omega)) (by simp [take_marked]) rfl ?_
    | refine ⟨_, _, heldIntS_c (GroundedOf x0 x1 x2).length 1 (by omega) (by omega), by simp [take_marked], .inr rfl, ?_⟩
    | refine ⟨_, _, heldIntS_c (GroundedOf x0 x1 x2).length 1 (by omega) (by omega), by simp [take_marked], .inl rfl, ?_⟩
    | refine callE_pure (heldIntS_c (GroundedOf x0 x1 x2).length 1 (by omega) (by omega)) (by simp [take_marked]) (.inr rfl) ?_
    | refine callE_pure (heldIntS_c (GroundedOf x0 x1 x2).length 1 (by omega) (by omega)) (by simp [take_marked]) (.inl rfl) ?_
  simp -dsimp -implicitDefEqProofs [n2]

end Go.Proofs.Ytfmgadchjiplmaa
