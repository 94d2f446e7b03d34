/- Contracts of functions of this seat: what each answers, as plain Lean. -/
import Derived.Test.YtpcopekamgapaaaGreatMT62
set_option linter.all false
namespace Go.Proofs.YtpcopekamgapaaaGreat
open Go.RowKit

/-! The water. -/
def lockWater (w : Work) : Int := w.Lock.Water
def WaterOf (x : Waterway) : Int := if WaterwayOk x then RiverTotal x.Reaches + (x.Works.map lockWater).sum else 0
def locksTo (x : Waterway) (k : Nat) : Int := ((x.Works.take k).map lockWater).sum
theorem locksTo_zero {x : Waterway} : locksTo x 0 = 0 := rfl
theorem locksTo_succ {x : Waterway} {k : Nat} {w : Work} (h : x.Works[k]? = some w) : locksTo x (k + 1) = locksTo x k + w.Lock.Water := by
  unfold locksTo; rw [List.take_succ, h]; simp [lockWater]
theorem locksTo_all {x : Waterway} {k : Nat} (h : x.Works.length ≤ k) : locksTo x k = (x.Works.map lockWater).sum := by unfold locksTo; rw [List.take_of_length_le h]
structure WaterFacts (x : Waterway) : Prop where
  river : RiverOk x.Reaches = true
  few : x.Works.length ≤ 5
  rng : ∀ w ∈ x.Works, 0 ≤ w.Lock.Water ∧ w.Lock.Water ≤ 1000000000
  start : 0 ≤ x.Start ∧ x.Start ≤ 1000000000
  inn : 0 ≤ x.In ∧ x.In ≤ 1000000000
  out : 0 ≤ x.Out ∧ x.Out ≤ 1000000000
theorem waterFacts {x : Waterway} (h : WaterwayOk x = true) : WaterFacts x := by
  simp only [WaterwayOk, Bool.and_eq_true] at h
  obtain ⟨⟨⟨⟨⟨⟨⟨h1, h2⟩, h3⟩, h4⟩, h5⟩, h6⟩, h7⟩, h8⟩ := h
  simp only [partsOk, Bool.and_eq_true, decide_eq_true_eq, List.all_eq_true] at h2
  obtain ⟨⟨⟨⟨⟨⟨p1, p2⟩, p3⟩, p4⟩, p5⟩, p6⟩, p7⟩ := h2
  have rf := (riverFacts p1).len
  refine ⟨p1, by omega, fun w hw => ?_, inRange_iff.1 h6, inRange_iff.1 h7, inRange_iff.1 h8⟩
  have := p7 w hw
  simp only [WorkOk, LockOk, Bool.and_eq_true] at this
  exact inRange_iff.1 this.1.1.1.1.1.1.1.1.2
theorem locksTo_rng {x : Waterway} (h : WaterFacts x) : ∀ k : Nat, 0 ≤ locksTo x k ∧ locksTo x k ≤ 1000000000 * k
  | 0 => by rw [locksTo_zero]; omega
  | k + 1 => by
    have ih := locksTo_rng h k
    have e2 : ((k + 1 : Nat) : Int) = k + 1 := by simp
    cases hk : x.Works[k]? with
    | none =>
      have hl : x.Works.length ≤ k := by simpa using hk
      rw [locksTo_all (by omega), ← locksTo_all hl]; omega
    | some w =>
      have := h.rng w (List.mem_of_getElem? hk)
      rw [locksTo_succ hk]; omega
theorem riverTotal_rng {l : List Reach} (h : RiverOk l = true) : 0 ≤ RiverTotal l ∧ RiverTotal l ≤ 1000000000 := by
  have := (riverFacts h).rng
  simp [RiverTotal, h]; omega
theorem WaterOf_rng (x : Waterway) : 0 ≤ WaterOf x ∧ WaterOf x ≤ 6000000000 := by
  unfold WaterOf
  split
  · rename_i h
    have f := waterFacts h
    have h1 := riverTotal_rng f.river
    have h2 := locksTo_rng f x.Works.length
    have h3 := f.few
    rw [locksTo_all (Nat.le_refl _)] at h2
    omega
  · omega
theorem WaterOf_impl (x : Waterway) (hs : x.small) : PureF Tryz.prog n_impl_WaterOf [.agg (x.enc.map .c)] (.c (.i (WaterOf x))) := by
  refine pure_of h_impl_WaterOf (by simp) fun hwf => ?_
  simp -dsimp -implicitDefEqProofs [c_impl_WaterOf]
  first
    | refine call_lend (WaterwayOk_impl x hs) (by simp) rfl ?_
    | refine call_pure (WaterwayOk_impl x hs) (by simp) rfl ?_
    | refine ⟨_, _, WaterwayOk_impl x hs, by simp, .inr rfl, ?_⟩
    | refine ⟨_, _, WaterwayOk_impl x hs, by simp, .inl rfl, ?_⟩
    | refine callE_pure (WaterwayOk_impl x hs) (by simp) (.inr rfl) ?_
    | refine callE_pure (WaterwayOk_impl x hs) (by simp) (.inl rfl) ?_
  cases h : WaterwayOk x with
  | false => simp -dsimp -implicitDefEqProofs; simp [WaterOf, h]
  | true =>
  have f := waterFacts h
  have hr := riverTotal_rng f.river
  have hfew := f.few
  have hW : WaterOf x = RiverTotal x.Reaches + (x.Works.map lockWater).sum := by simp [WaterOf, h]
  simp -dsimp -implicitDefEqProofs
  first
    | refine call_lend (RiverTotal_impl x.Reaches) (by simp) rfl ?_
    | refine call_pure (RiverTotal_impl x.Reaches) (by simp) rfl ?_
    | refine ⟨_, _, RiverTotal_impl x.Reaches, by simp, .inr rfl, ?_⟩
    | refine ⟨_, _, RiverTotal_impl x.Reaches, by simp, .inl rfl, ?_⟩
    | refine callE_pure (RiverTotal_impl x.Reaches) (by simp) (.inr rfl) ?_
    | refine callE_pure (RiverTotal_impl x.Reaches) (by simp) (.inl rfl) ?_
  simp -dsimp -implicitDefEqProofs
  intro hlen
  refine loop_rule (ι := Nat) (fun k => k ≤ x.Works.length) (fun k => stOf [(3, .c (.i (RiverTotal x.Reaches + locksTo x k))), (13, .c (.sl 22 (x.Works.map Work.enc))), (14, .c (.i x.Works.length)), (15, .c (.i k))] []) (fun k => x.Works.length - k) 0 (by simp) (by apply le_of <;> simp [AV.refs1, AV.ref0, Obj.refs1, locksTo_zero]) ?_
  rintro k hk
  rcases Nat.lt_or_ge k x.Works.length with hlt | hge
  · obtain ⟨w, hw⟩ : ∃ w, x.Works[k]? = some w := ⟨_, List.getElem?_eq_getElem hlt⟩
    have g1 := (List.getElem?_eq_some_iff.1 hw).2
    have e1 := locksTo_succ hw
    have hb := locksTo_rng f (k + 1)
    have hb0 := locksTo_rng f k
    rw [e1] at hb
    simp -dsimp -implicitDefEqProofs [hw, g1, lt_t hlt, hlt]
    refine ⟨by unfold inI; omega, inI_succ hlt hlen, k + 1, hlt, by omega, ?_⟩
    apply le_of <;> simp [AV.refs1, AV.ref0, Obj.refs1, e1]
    omega
  · simp -dsimp -implicitDefEqProofs [lt_f hge]
    rw [locksTo_all hge, hW]
theorem WaterOf_spec (x : Waterway) (hs : x.small) : PureF Tryz.prog n_spec_WaterOf [.agg (x.enc.map .c)] (.c (.i (WaterOf x))) := by
  refine pure_of h_spec_WaterOf (by simp) fun hwf => ?_
  simp -dsimp -implicitDefEqProofs [c_spec_WaterOf]
  first
    | refine call_lend (WaterwayOk_spec x hs) (by simp) rfl ?_
    | refine call_pure (WaterwayOk_spec x hs) (by simp) rfl ?_
    | refine ⟨_, _, WaterwayOk_spec x hs, by simp, .inr rfl, ?_⟩
    | refine ⟨_, _, WaterwayOk_spec x hs, by simp, .inl rfl, ?_⟩
    | refine callE_pure (WaterwayOk_spec x hs) (by simp) (.inr rfl) ?_
    | refine callE_pure (WaterwayOk_spec x hs) (by simp) (.inl rfl) ?_
  cases h : WaterwayOk x with
  | false => simp -dsimp -implicitDefEqProofs; simp [WaterOf, h]
  | true =>
  have f := waterFacts h
  have hr := riverTotal_rng f.river
  have hfew := f.few
  have hW : WaterOf x = RiverTotal x.Reaches + (x.Works.map lockWater).sum := by simp [WaterOf, h]
  simp -dsimp -implicitDefEqProofs
  first
    | refine call_lend (RiverTotal_spec x.Reaches) (by simp) rfl ?_
    | refine call_pure (RiverTotal_spec x.Reaches) (by simp) rfl ?_
    | refine ⟨_, _, RiverTotal_spec x.Reaches, by simp, .inr rfl, ?_⟩
    | refine ⟨_, _, RiverTotal_spec x.Reaches, by simp, .inl rfl, ?_⟩
    | refine callE_pure (RiverTotal_spec x.Reaches) (by simp) (.inr rfl) ?_
    | refine callE_pure (RiverTotal_spec x.Reaches) (by simp) (.inl rfl) ?_
  simp -dsimp -implicitDefEqProofs
  refine loop_rule (ι := Nat) (fun k => k ≤ x.Works.length) (fun k => stOf [(1, .box 1 0), (3, .c (.i (RiverTotal x.Reaches + locksTo x k))), (4, .c (.i k))] [(1, .box (x.enc.map .c))]) (fun k => x.Works.length - k) 0 (by simp) (by apply le_of <;> simp [AV.refs1, AV.ref0, Obj.refs1, locksTo_zero]) ?_
  rintro k hk
  rcases Nat.lt_or_ge k x.Works.length with hlt | hge
  · obtain ⟨w, hw⟩ : ∃ w, x.Works[k]? = some w := ⟨_, List.getElem?_eq_getElem hlt⟩
    have g1 := (List.getElem?_eq_some_iff.1 hw).2
    have e1 := locksTo_succ hw
    have hb := locksTo_rng f (k + 1)
    have hb0 := locksTo_rng f k
    rw [e1] at hb
    simp -dsimp -implicitDefEqProofs [hw, g1, lt_t hlt, hlt]
    refine fun hlen => ⟨by unfold inI; omega, inI_succ hlt hlen, k + 1, hlt, by omega, ?_⟩
    apply le_of <;> simp [AV.refs1, AV.ref0, Obj.refs1, e1]
    omega
  · simp -dsimp -implicitDefEqProofs [lt_f hge]
    intro _
    rw [locksTo_all hge, hW]
def WaterKept (x : Waterway) : Bool := WaterwayOk x && decide (WaterOf x + x.Out = x.Start + x.In)
theorem WaterKept_impl (x : Waterway) (hs : x.small) : PureF Tryz.prog n_impl_WaterKept [.agg (x.enc.map .c)] (.c (.b (WaterKept x))) := by
  refine pure_of h_impl_WaterKept (by simp) fun hwf => ?_
  simp -dsimp -implicitDefEqProofs [c_impl_WaterKept]
  first
    | refine call_lend (WaterwayOk_impl x hs) (by simp) rfl ?_
    | refine call_pure (WaterwayOk_impl x hs) (by simp) rfl ?_
    | refine ⟨_, _, WaterwayOk_impl x hs, by simp, .inr rfl, ?_⟩
    | refine ⟨_, _, WaterwayOk_impl x hs, by simp, .inl rfl, ?_⟩
    | refine callE_pure (WaterwayOk_impl x hs) (by simp) (.inr rfl) ?_
    | refine callE_pure (WaterwayOk_impl x hs) (by simp) (.inl rfl) ?_
  cases h : WaterwayOk x with
  | false => simp -dsimp -implicitDefEqProofs; simp [WaterKept, h]
  | true =>
  have f := waterFacts h
  have f1 := f.start; have f2 := f.inn; have f3 := f.out
  have hw := WaterOf_rng x
  simp -dsimp -implicitDefEqProofs
  first
    | refine call_lend (WaterOf_impl x hs) (by simp) rfl ?_
    | refine call_pure (WaterOf_impl x hs) (by simp) rfl ?_
    | refine ⟨_, _, WaterOf_impl x hs, by simp, .inr rfl, ?_⟩
    | refine ⟨_, _, WaterOf_impl x hs, by simp, .inl rfl, ?_⟩
    | refine callE_pure (WaterOf_impl x hs) (by simp) (.inr rfl) ?_
    | refine callE_pure (WaterOf_impl x hs) (by simp) (.inl rfl) ?_
  simp -dsimp -implicitDefEqProofs
  refine ⟨by unfold inI; omega, by unfold inI; omega, ?_⟩
  simp [WaterKept, h]
theorem WaterKept_spec (x : Waterway) (hs : x.small) : PureF Tryz.prog n_spec_WaterKept [.agg (x.enc.map .c)] (.c (.b (WaterKept x))) := by
  refine pure_of h_spec_WaterKept (by simp) fun hwf => ?_
  simp -dsimp -implicitDefEqProofs [c_spec_WaterKept]
  first
    | refine call_lend (WaterwayOk_spec x hs) (by simp) rfl ?_
    | refine call_pure (WaterwayOk_spec x hs) (by simp) rfl ?_
    | refine ⟨_, _, WaterwayOk_spec x hs, by simp, .inr rfl, ?_⟩
    | refine ⟨_, _, WaterwayOk_spec x hs, by simp, .inl rfl, ?_⟩
    | refine callE_pure (WaterwayOk_spec x hs) (by simp) (.inr rfl) ?_
    | refine callE_pure (WaterwayOk_spec x hs) (by simp) (.inl rfl) ?_
  cases h : WaterwayOk x with
  | false => simp -dsimp -implicitDefEqProofs; simp [WaterKept, h]
  | true =>
  have f := waterFacts h
  have f1 := f.start; have f2 := f.inn; have f3 := f.out
  have hw := WaterOf_rng x
  simp -dsimp -implicitDefEqProofs
  first
    | refine call_lend (WaterOf_spec x hs) (by simp) rfl ?_
    | refine call_pure (WaterOf_spec x hs) (by simp) rfl ?_
    | refine ⟨_, _, WaterOf_spec x hs, by simp, .inr rfl, ?_⟩
    | refine ⟨_, _, WaterOf_spec x hs, by simp, .inl rfl, ?_⟩
    | refine callE_pure (WaterOf_spec x hs) (by simp) (.inr rfl) ?_
    | refine callE_pure (WaterOf_spec x hs) (by simp) (.inl rfl) ?_
  simp -dsimp -implicitDefEqProofs
  refine ⟨by unfold inI; omega, by unfold inI; omega, ?_⟩
  simp [WaterKept, h]
theorem FnExactWaterOf_c (x0 : Waterway) : PureF Tryz.prog n_laws_FnExactWaterOf [.agg (x0.enc.map .c)] (.c (.b true)) := by
  refine pure_of h_laws_FnExactWaterOf (by simp) fun hwf => ?_
  simp -dsimp -implicitDefEqProofs [c_laws_FnExactWaterOf]
  first
    | refine call_lend (sz_Waterway_c x0 1048576 (by omega) (by omega)) (by simp) rfl ?_
    | refine call_pure (sz_Waterway_c x0 1048576 (by omega) (by omega)) (by simp) rfl ?_
    | refine ⟨_, _, sz_Waterway_c x0 1048576 (by omega) (by omega), by simp, .inr rfl, ?_⟩
    | refine ⟨_, _, sz_Waterway_c x0 1048576 (by omega) (by omega), by simp, .inl rfl, ?_⟩
    | refine callE_pure (sz_Waterway_c x0 1048576 (by omega) (by omega)) (by simp) (.inr rfl) ?_
    | refine callE_pure (sz_Waterway_c x0 1048576 (by omega) (by omega)) (by simp) (.inl rfl) ?_
  simp -dsimp -implicitDefEqProofs
  intro hsz0
  have hl0 := sz_small sz_Waterway_ok (by omega) (by omega) hsz0
  first
    | refine call_lend (toWaterway_c x0 hl0) (by simp) rfl ?_
    | refine call_pure (toWaterway_c x0 hl0) (by simp) rfl ?_
    | refine ⟨_, _, toWaterway_c x0 hl0, by simp, .inr rfl, ?_⟩
    | refine ⟨_, _, toWaterway_c x0 hl0, by simp, .inl rfl, ?_⟩
    | refine callE_pure (toWaterway_c x0 hl0) (by simp) (.inr rfl) ?_
    | refine callE_pure (toWaterway_c x0 hl0) (by simp) (.inl rfl) ?_
  simp -dsimp -implicitDefEqProofs
  first
    | refine call_lend (WaterOf_spec x0 hl0) (by simp) rfl ?_
    | refine call_pure (WaterOf_spec x0 hl0) (by simp) rfl ?_
    | refine ⟨_, _, WaterOf_spec x0 hl0, by simp, .inr rfl, ?_⟩
    | refine ⟨_, _, WaterOf_spec x0 hl0, by simp, .inl rfl, ?_⟩
    | refine callE_pure (WaterOf_spec x0 hl0) (by simp) (.inr rfl) ?_
    | refine callE_pure (WaterOf_spec x0 hl0) (by simp) (.inl rfl) ?_
  simp -dsimp -implicitDefEqProofs
  first
    | refine call_lend (toWaterway_c x0 hl0) (by simp) rfl ?_
    | refine call_pure (toWaterway_c x0 hl0) (by simp) rfl ?_
    | refine ⟨_, _, toWaterway_c x0 hl0, by simp, .inr rfl, ?_⟩
    | refine ⟨_, _, toWaterway_c x0 hl0, by simp, .inl rfl, ?_⟩
    | refine callE_pure (toWaterway_c x0 hl0) (by simp) (.inr rfl) ?_
    | refine callE_pure (toWaterway_c x0 hl0) (by simp) (.inl rfl) ?_
  simp -dsimp -implicitDefEqProofs
  first
    | refine call_lend (WaterOf_impl x0 hl0) (by simp) rfl ?_
    | refine call_pure (WaterOf_impl x0 hl0) (by simp) rfl ?_
    | refine ⟨_, _, WaterOf_impl x0 hl0, by simp, .inr rfl, ?_⟩
    | refine ⟨_, _, WaterOf_impl x0 hl0, by simp, .inl rfl, ?_⟩
    | refine callE_pure (WaterOf_impl x0 hl0) (by simp) (.inr rfl) ?_
    | refine callE_pure (WaterOf_impl x0 hl0) (by simp) (.inl rfl) ?_
  simp -dsimp -implicitDefEqProofs
  first
    | refine call_lend (toWaterway_c x0 hl0) (by simp) rfl ?_
    | refine call_pure (toWaterway_c x0 hl0) (by simp) rfl ?_
    | refine ⟨_, _, toWaterway_c x0 hl0, by simp, .inr rfl, ?_⟩
    | refine ⟨_, _, toWaterway_c x0 hl0, by simp, .inl rfl, ?_⟩
    | refine callE_pure (toWaterway_c x0 hl0) (by simp) (.inr rfl) ?_
    | refine callE_pure (toWaterway_c x0 hl0) (by simp) (.inl rfl) ?_
  simp -dsimp -implicitDefEqProofs
  first
    | refine call_lend (eqWaterway_c x0 x0) (by simp) rfl ?_
    | refine call_pure (eqWaterway_c x0 x0) (by simp) rfl ?_
    | refine ⟨_, _, eqWaterway_c x0 x0, by simp, .inr rfl, ?_⟩
    | refine ⟨_, _, eqWaterway_c x0 x0, by simp, .inl rfl, ?_⟩
    | refine callE_pure (eqWaterway_c x0 x0) (by simp) (.inr rfl) ?_
    | refine callE_pure (eqWaterway_c x0 x0) (by simp) (.inl rfl) ?_
  simp -dsimp -implicitDefEqProofs
theorem FnExactWaterKept_c (x0 : Waterway) : PureF Tryz.prog n_laws_FnExactWaterKept [.agg (x0.enc.map .c)] (.c (.b true)) := by
  refine pure_of h_laws_FnExactWaterKept (by simp) fun hwf => ?_
  simp -dsimp -implicitDefEqProofs [c_laws_FnExactWaterKept]
  first
    | refine call_lend (sz_Waterway_c x0 1048576 (by omega) (by omega)) (by simp) rfl ?_
    | refine call_pure (sz_Waterway_c x0 1048576 (by omega) (by omega)) (by simp) rfl ?_
    | refine ⟨_, _, sz_Waterway_c x0 1048576 (by omega) (by omega), by simp, .inr rfl, ?_⟩
    | refine ⟨_, _, sz_Waterway_c x0 1048576 (by omega) (by omega), by simp, .inl rfl, ?_⟩
    | refine callE_pure (sz_Waterway_c x0 1048576 (by omega) (by omega)) (by simp) (.inr rfl) ?_
    | refine callE_pure (sz_Waterway_c x0 1048576 (by omega) (by omega)) (by simp) (.inl rfl) ?_
  simp -dsimp -implicitDefEqProofs
  intro hsz0
  have hl0 := sz_small sz_Waterway_ok (by omega) (by omega) hsz0
  first
    | refine call_lend (toWaterway_c x0 hl0) (by simp) rfl ?_
    | refine call_pure (toWaterway_c x0 hl0) (by simp) rfl ?_
    | refine ⟨_, _, toWaterway_c x0 hl0, by simp, .inr rfl, ?_⟩
    | refine ⟨_, _, toWaterway_c x0 hl0, by simp, .inl rfl, ?_⟩
    | refine callE_pure (toWaterway_c x0 hl0) (by simp) (.inr rfl) ?_
    | refine callE_pure (toWaterway_c x0 hl0) (by simp) (.inl rfl) ?_
  simp -dsimp -implicitDefEqProofs
  first
    | refine call_lend (WaterKept_spec x0 hl0) (by simp) rfl ?_
    | refine call_pure (WaterKept_spec x0 hl0) (by simp) rfl ?_
    | refine ⟨_, _, WaterKept_spec x0 hl0, by simp, .inr rfl, ?_⟩
    | refine ⟨_, _, WaterKept_spec x0 hl0, by simp, .inl rfl, ?_⟩
    | refine callE_pure (WaterKept_spec x0 hl0) (by simp) (.inr rfl) ?_
    | refine callE_pure (WaterKept_spec x0 hl0) (by simp) (.inl rfl) ?_
  simp -dsimp -implicitDefEqProofs
  first
    | refine call_lend (toWaterway_c x0 hl0) (by simp) rfl ?_
    | refine call_pure (toWaterway_c x0 hl0) (by simp) rfl ?_
    | refine ⟨_, _, toWaterway_c x0 hl0, by simp, .inr rfl, ?_⟩
    | refine ⟨_, _, toWaterway_c x0 hl0, by simp, .inl rfl, ?_⟩
    | refine callE_pure (toWaterway_c x0 hl0) (by simp) (.inr rfl) ?_
    | refine callE_pure (toWaterway_c x0 hl0) (by simp) (.inl rfl) ?_
  simp -dsimp -implicitDefEqProofs
  first
    | refine call_lend (WaterKept_impl x0 hl0) (by simp) rfl ?_
    | refine call_pure (WaterKept_impl x0 hl0) (by simp) rfl ?_
    | refine ⟨_, _, WaterKept_impl x0 hl0, by simp, .inr rfl, ?_⟩
    | refine ⟨_, _, WaterKept_impl x0 hl0, by simp, .inl rfl, ?_⟩
    | refine callE_pure (WaterKept_impl x0 hl0) (by simp) (.inr rfl) ?_
    | refine callE_pure (WaterKept_impl x0 hl0) (by simp) (.inl rfl) ?_
  simp -dsimp -implicitDefEqProofs
  first
    | refine call_lend (toWaterway_c x0 hl0) (by simp) rfl ?_
    | refine call_pure (toWaterway_c x0 hl0) (by simp) rfl ?_
    | refine ⟨_, _, toWaterway_c x0 hl0, by simp, .inr rfl, ?_⟩
    | refine ⟨_, _, toWaterway_c x0 hl0, by simp, .inl rfl, ?_⟩
    | refine callE_pure (toWaterway_c x0 hl0) (by simp) (.inr rfl) ?_
    | refine callE_pure (toWaterway_c x0 hl0) (by simp) (.inl rfl) ?_
  simp -dsimp -implicitDefEqProofs
  first
    | refine call_lend (eqWaterway_c x0 x0) (by simp) rfl ?_
    | refine call_pure (eqWaterway_c x0 x0) (by simp) rfl ?_
    | refine ⟨_, _, eqWaterway_c x0 x0, by simp, .inr rfl, ?_⟩
    | refine ⟨_, _, eqWaterway_c x0 x0, by simp, .inl rfl, ?_⟩
    | refine callE_pure (eqWaterway_c x0 x0) (by simp) (.inr rfl) ?_
    | refine callE_pure (eqWaterway_c x0 x0) (by simp) (.inl rfl) ?_
  simp -dsimp -implicitDefEqProofs

end Go.Proofs.YtpcopekamgapaaaGreat
