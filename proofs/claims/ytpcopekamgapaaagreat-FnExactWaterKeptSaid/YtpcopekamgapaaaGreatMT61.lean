/- Contracts of functions of this seat: what each answers, as plain Lean. -/
import Derived.Test.YtpcopekamgapaaaGreatMT12
set_option linter.all false
namespace Go.Proofs.YtpcopekamgapaaaGreat
open Go.RowKit

/-! Rivers. -/
def TotalOf (r : Reach) : Int := if ReachOk r then l02Sum r else 0
def river (l : List Reach) : Int := (l.map l02Sum).sum
def RiverOk (l : List Reach) : Bool := decide (1 ≤ l.length) && decide (l.length ≤ 6) && l.all ReachOk && decide (river l ≤ 1000000000)
def RiverTotal (l : List Reach) : Int := if RiverOk l then river l else 0
def riverTo (l : List Reach) (k : Nat) : Int := river (l.take k)
theorem riverTo_zero {l : List Reach} : riverTo l 0 = 0 := rfl
theorem riverTo_succ {l : List Reach} {k : Nat} {r : Reach} (h : l[k]? = some r) : riverTo l (k + 1) = riverTo l k + l02Sum r := by
  unfold riverTo river
  rw [List.take_succ, h]; simp
theorem riverTo_all {l : List Reach} {k : Nat} (h : l.length ≤ k) : riverTo l k = river l := by unfold riverTo; rw [List.take_of_length_le h]
structure SumFacts (r : Reach) : Prop where
  vol : amount r.Volume = true
  len : r.Pipe.length ≤ 12
  amt : ∀ n ∈ r.Pipe, amount n = true
  rng : 0 ≤ l02Sum r ∧ l02Sum r ≤ 1000000000
theorem sumFacts {r : Reach} (h : ReachOk r = true) : SumFacts r := by
  simp only [ReachOk, Bool.and_eq_true, decide_eq_true_eq, List.all_eq_true] at h
  obtain ⟨⟨⟨⟨h1, h2⟩, h3⟩, h4⟩, h5⟩ := h
  refine ⟨h2, h3, h4, ?_, h5⟩
  have a1 := inRange_iff.1 (show inRange r.Volume 0 1000000000 = true from h2)
  have a2 := sum_nonneg (l := r.Pipe) h4
  unfold l02Sum; omega
theorem riverTo_rng {l : List Reach} : ∀ {k : Nat}, (∀ r ∈ l.take k, ReachOk r = true) → 0 ≤ riverTo l k ∧ riverTo l k ≤ 1000000000 * k
  | 0, _ => by rw [riverTo_zero]; omega
  | k + 1, h => by
    have ih := riverTo_rng (k := k) fun r hr => h r (by rw [List.take_succ]; exact List.mem_append_left _ hr)
    have e2 : ((k + 1 : Nat) : Int) = k + 1 := by simp
    cases hk : l[k]? with
    | none =>
      have hl : l.length ≤ k := by simpa using hk
      rw [riverTo_all (by omega), ← riverTo_all hl]; omega
    | some r =>
      have := (sumFacts (h r (by rw [List.take_succ, hk]; exact List.mem_append_right _ (by simp)))).rng
      rw [riverTo_succ hk]; omega
theorem river_no {l : List Reach} (h : RiverOk l = false) : RiverTotal l = 0 := by simp [RiverTotal, h]
theorem riverOk_no {l : List Reach} {k : Nat} {r : Reach} (h : l[k]? = some r) (hr : ReachOk r = false) : RiverOk l = false := by
  have := all_false (p := ReachOk) h hr
  simp [RiverOk, this]
theorem TotalOf_impl (r : Reach) : PureF Tryz.prog n_impl_TotalOf [.agg (r.enc.map .c)] (.c (.i (TotalOf r))) := by
  refine pure_of h_impl_TotalOf (by simp) fun hwf => ?_
  simp -dsimp -implicitDefEqProofs [c_impl_TotalOf]
  first
    | refine call_lend (ReachOk_impl r) (by simp) rfl ?_
    | refine call_pure (ReachOk_impl r) (by simp) rfl ?_
    | refine ⟨_, _, ReachOk_impl r, by simp, .inr rfl, ?_⟩
    | refine ⟨_, _, ReachOk_impl r, by simp, .inl rfl, ?_⟩
    | refine callE_pure (ReachOk_impl r) (by simp) (.inr rfl) ?_
    | refine callE_pure (ReachOk_impl r) (by simp) (.inl rfl) ?_
  cases h : ReachOk r with
  | false => simp -dsimp -implicitDefEqProofs; simp [TotalOf, h]
  | true =>
  have f := sumFacts h
  have hl := f.len
  have hv := inRange_iff.1 (show inRange r.Volume 0 1000000000 = true from f.vol)
  have ht : TotalOf r = l02Sum r := by simp [TotalOf, h]
  simp -dsimp -implicitDefEqProofs [ht]
  intro hlen
  refine loop_rule (ι := Nat) (fun k => k ≤ r.Pipe.length) (fun k => stOf [(3, .c (.i (r.Volume + sumTo r.Pipe k))), (12, .c (.sl 1 (r.Pipe.map ienc))), (13, .c (.i r.Pipe.length)), (14, .c (.i k))] []) (fun k => r.Pipe.length - k) 0 (by simp) (by apply le_of <;> simp [AV.refs1, AV.ref0, Obj.refs1, sumTo_zero]) ?_
  rintro k hk
  rcases Nat.lt_or_ge k r.Pipe.length with hlt | hge
  · obtain ⟨x, hx⟩ : ∃ x, r.Pipe[k]? = some x := ⟨_, List.getElem?_eq_getElem hlt⟩
    have e1 := sumTo_succ hx
    have b1 := sumTo_bound f.amt hl (k + 1)
    rw [e1] at b1
    simp -dsimp -implicitDefEqProofs [hx, lt_t hlt]
    refine ⟨by unfold inI; omega, inI_succ hlt hlen, k + 1, hlt, by omega, ?_⟩
    apply le_of <;> simp [AV.refs1, AV.ref0, Obj.refs1, e1]; omega
  · simp -dsimp -implicitDefEqProofs [lt_f hge]
    rw [sumTo_all hge, ht]; rfl
theorem RiverOk_impl (l : List Reach) : PureF Tryz.prog n_impl_RiverOk [.c (.sl 3 (l.map Reach.enc))] (.c (.b (RiverOk l))) := by
  refine pure_of h_impl_RiverOk (by simp) fun hwf => ?_
  simp -dsimp -implicitDefEqProofs [c_impl_RiverOk]
  refine fun hlen => ⟨fun h1 => ?_, fun h1 => ?_⟩
  rotate_left
  · simp [RiverOk]; omega
  refine fun _ => ⟨fun h6 => by simp [RiverOk]; omega, fun h6 => ?_⟩
  refine fun _ => loop_rule (ι := Nat) (fun k => k ≤ l.length ∧ ∀ r ∈ l.take k, ReachOk r = true) (fun k => stOf [(3, .c (.i (riverTo l k))), (14, .c (.sl 3 (l.map Reach.enc))), (15, .c (.i l.length)), (16, .c (.i k))] []) (fun k => l.length - k) 0 (by simp) (by apply le_of <;> simp [AV.refs1, AV.ref0, Obj.refs1, riverTo_zero]) ?_
  rintro k ⟨hk, hall⟩
  rcases Nat.lt_or_ge k l.length with hlt | hge
  · obtain ⟨r, hr⟩ : ∃ r, l[k]? = some r := ⟨_, List.getElem?_eq_getElem hlt⟩
    simp -dsimp -implicitDefEqProofs [hr, lt_t hlt]
    first
      | refine call_lend (ReachOk_impl r) (by simp) rfl ?_
      | refine call_pure (ReachOk_impl r) (by simp) rfl ?_
      | refine ⟨_, _, ReachOk_impl r, by simp, .inr rfl, ?_⟩
      | refine ⟨_, _, ReachOk_impl r, by simp, .inl rfl, ?_⟩
      | refine callE_pure (ReachOk_impl r) (by simp) (.inr rfl) ?_
      | refine callE_pure (ReachOk_impl r) (by simp) (.inl rfl) ?_
    cases h : ReachOk r with
    | false => simp -dsimp -implicitDefEqProofs; exact riverOk_no hr h
    | true =>
      have ht : TotalOf r = l02Sum r := by simp [TotalOf, h]
      have hall' := all_take_succ (p := ReachOk) hr hall h
      have hb := riverTo_rng hall'
      have e1 := riverTo_succ hr
      simp -dsimp -implicitDefEqProofs
      first
        | refine call_lend (TotalOf_impl r) (by simp) rfl ?_
        | refine call_pure (TotalOf_impl r) (by simp) rfl ?_
        | refine ⟨_, _, TotalOf_impl r, by simp, .inr rfl, ?_⟩
        | refine ⟨_, _, TotalOf_impl r, by simp, .inl rfl, ?_⟩
        | refine callE_pure (TotalOf_impl r) (by simp) (.inr rfl) ?_
        | refine callE_pure (TotalOf_impl r) (by simp) (.inl rfl) ?_
      simp -dsimp -implicitDefEqProofs [ht]
      refine ⟨by rw [e1] at hb; unfold inI; omega, inI_succ hlt hlen, k + 1, ⟨hlt, hall'⟩, by omega, ?_⟩
      apply le_of <;> simp [AV.refs1, AV.ref0, Obj.refs1, e1]
  · have hall2 := all_of_take (p := ReachOk) hge hall
    simp -dsimp -implicitDefEqProofs [lt_f hge]
    rw [riverTo_all hge]
    have a1 : 1 ≤ l.length := by omega
    have a2 : l.length ≤ 6 := by omega
    simp [RiverOk, a1, a2, hall2]
structure RiverFacts (l : List Reach) : Prop where
  len : 1 ≤ l.length ∧ l.length ≤ 6
  ok : ∀ r ∈ l, ReachOk r = true
  rng : 0 ≤ river l ∧ river l ≤ 1000000000
theorem riverFacts {l : List Reach} (h : RiverOk l = true) : RiverFacts l := by
  simp only [RiverOk, Bool.and_eq_true, decide_eq_true_eq, List.all_eq_true] at h
  obtain ⟨⟨⟨h1, h2⟩, h3⟩, h4⟩ := h
  have := riverTo_rng (l := l) (k := l.length) (by rw [List.take_length]; exact h3)
  rw [riverTo_all (Nat.le_refl _)] at this
  exact ⟨⟨h1, h2⟩, h3, this.1, h4⟩
theorem RiverTotal_impl (l : List Reach) : PureF Tryz.prog n_impl_RiverTotal [.c (.sl 3 (l.map Reach.enc))] (.c (.i (RiverTotal l))) := by
  refine pure_of h_impl_RiverTotal (by simp) fun hwf => ?_
  simp -dsimp -implicitDefEqProofs [c_impl_RiverTotal]
  first
    | refine call_lend (RiverOk_impl l) (by simp) rfl ?_
    | refine call_pure (RiverOk_impl l) (by simp) rfl ?_
    | refine ⟨_, _, RiverOk_impl l, by simp, .inr rfl, ?_⟩
    | refine ⟨_, _, RiverOk_impl l, by simp, .inl rfl, ?_⟩
    | refine callE_pure (RiverOk_impl l) (by simp) (.inr rfl) ?_
    | refine callE_pure (RiverOk_impl l) (by simp) (.inl rfl) ?_
  cases h : RiverOk l with
  | false => simp -dsimp -implicitDefEqProofs; rw [river_no h]
  | true =>
  have f := riverFacts h
  have ht : RiverTotal l = river l := by simp [RiverTotal, h]
  simp -dsimp -implicitDefEqProofs [ht]
  intro hlen
  refine loop_rule (ι := Nat) (fun k => k ≤ l.length) (fun k => stOf [(3, .c (.i (riverTo l k))), (9, .c (.sl 3 (l.map Reach.enc))), (10, .c (.i l.length)), (11, .c (.i k))] []) (fun k => l.length - k) 0 (by simp) (by apply le_of <;> simp [AV.refs1, AV.ref0, Obj.refs1, riverTo_zero]) ?_
  rintro k hk
  rcases Nat.lt_or_ge k l.length with hlt | hge
  · obtain ⟨r, hr⟩ : ∃ r, l[k]? = some r := ⟨_, List.getElem?_eq_getElem hlt⟩
    have h2 : TotalOf r = l02Sum r := by simp [TotalOf, f.ok r (List.mem_of_getElem? hr)]
    have hb := riverTo_rng (l := l) (k := k + 1) fun x hx => f.ok x (List.mem_of_mem_take hx)
    have e1 := riverTo_succ hr
    have hl6 := f.len
    simp -dsimp -implicitDefEqProofs [hr, lt_t hlt]
    first
      | refine call_lend (TotalOf_impl r) (by simp) rfl ?_
      | refine call_pure (TotalOf_impl r) (by simp) rfl ?_
      | refine ⟨_, _, TotalOf_impl r, by simp, .inr rfl, ?_⟩
      | refine ⟨_, _, TotalOf_impl r, by simp, .inl rfl, ?_⟩
      | refine callE_pure (TotalOf_impl r) (by simp) (.inr rfl) ?_
      | refine callE_pure (TotalOf_impl r) (by simp) (.inl rfl) ?_
    simp -dsimp -implicitDefEqProofs [h2]
    refine ⟨by rw [e1] at hb; unfold inI; omega, inI_succ hlt hlen, k + 1, hlt, by omega, ?_⟩
    apply le_of <;> simp [AV.refs1, AV.ref0, Obj.refs1, e1]
  · simp -dsimp -implicitDefEqProofs [lt_f hge]
    rw [riverTo_all hge, ht]
def capTo (l : List Reach) (k : Nat) : Int := if 1000000001 < riverTo l k then 1000000001 else riverTo l k
theorem capTo_zero {l : List Reach} : capTo l 0 = 0 := by simp [capTo, riverTo_zero]
theorem capTo_succ {l : List Reach} {k : Nat} {r : Reach} (h : l[k]? = some r) (hr : 0 ≤ l02Sum r) : (if 1000000001 < capTo l k + l02Sum r then 1000000001 else capTo l k + l02Sum r) = capTo l (k + 1) := by
  unfold capTo
  rw [riverTo_succ h]
  (repeat' split) <;> omega
theorem capTo_rng {l : List Reach} {k : Nat} (h : ∀ r ∈ l.take k, ReachOk r = true) : 0 ≤ capTo l k ∧ capTo l k ≤ 1000000001 := by
  have := riverTo_rng h
  unfold capTo
  split <;> omega
theorem RiverOk_spec (l : List Reach) : PureF Tryz.prog n_spec_RiverOk [.c (.sl 3 (l.map Reach.enc))] (.c (.b (RiverOk l))) := by
  refine pure_of h_spec_RiverOk (by simp) fun hwf => ?_
  simp -dsimp -implicitDefEqProofs [c_spec_RiverOk]
  refine loop_rule (ι := Nat) (fun k => k ≤ l.length ∧ ∀ r ∈ l.take k, ReachOk r = true) (fun k => stOf [(0, .c (.sl 3 (l.map Reach.enc))), (3, .c (.i (capTo l k))), (4, .c (.i k))] []) (fun k => l.length - k) 0 (by simp) (by apply le_of <;> simp [AV.refs1, AV.ref0, Obj.refs1, capTo_zero]) ?_
  rintro k ⟨hk, hall⟩
  rcases Nat.lt_or_ge k l.length with hlt | hge
  · obtain ⟨r, hr⟩ : ∃ r, l[k]? = some r := ⟨_, List.getElem?_eq_getElem hlt⟩
    simp -dsimp -implicitDefEqProofs [hr, lt_t hlt]
    intro hlen
    first
      | refine call_lend (ReachOk_spec r) (by simp) rfl ?_
      | refine call_pure (ReachOk_spec r) (by simp) rfl ?_
      | refine ⟨_, _, ReachOk_spec r, by simp, .inr rfl, ?_⟩
      | refine ⟨_, _, ReachOk_spec r, by simp, .inl rfl, ?_⟩
      | refine callE_pure (ReachOk_spec r) (by simp) (.inr rfl) ?_
      | refine callE_pure (ReachOk_spec r) (by simp) (.inl rfl) ?_
    cases h : ReachOk r with
    | false => simp -dsimp -implicitDefEqProofs; exact riverOk_no hr h
    | true =>
      have f := sumFacts h
      have hall' := all_take_succ (p := ReachOk) hr hall h
      have hb := capTo_rng hall
      have hs := f.rng
      have e1 := capTo_succ hr hs.1
      simp -dsimp -implicitDefEqProofs [hr, lt_t hlt]
      first
        | refine call_lend (l02Sum_c r f.vol f.len f.amt) (by simp) rfl ?_
        | refine call_pure (l02Sum_c r f.vol f.len f.amt) (by simp) rfl ?_
        | refine ⟨_, _, l02Sum_c r f.vol f.len f.amt, by simp, .inr rfl, ?_⟩
        | refine ⟨_, _, l02Sum_c r f.vol f.len f.amt, by simp, .inl rfl, ?_⟩
        | refine callE_pure (l02Sum_c r f.vol f.len f.amt) (by simp) (.inr rfl) ?_
        | refine callE_pure (l02Sum_c r f.vol f.len f.amt) (by simp) (.inl rfl) ?_
      simp -dsimp -implicitDefEqProofs [e1]
      refine ⟨by unfold inI; omega, inI_succ hlt hlen, k + 1, ⟨hlt, hall'⟩, by omega, ?_⟩
      apply le_of <;> simp [AV.refs1, AV.ref0, Obj.refs1, e1]
  · have hall2 := all_of_take (p := ReachOk) hge hall
    simp -dsimp -implicitDefEqProofs [lt_f hge]
    intro hlen
    first
      | refine call_lend (inRange_spec l.length 1 6) (by simp) rfl ?_
      | refine call_pure (inRange_spec l.length 1 6) (by simp) rfl ?_
      | refine ⟨_, _, inRange_spec l.length 1 6, by simp, .inr rfl, ?_⟩
      | refine ⟨_, _, inRange_spec l.length 1 6, by simp, .inl rfl, ?_⟩
      | refine callE_pure (inRange_spec l.length 1 6) (by simp) (.inr rfl) ?_
      | refine callE_pure (inRange_spec l.length 1 6) (by simp) (.inl rfl) ?_
    have hr : riverTo l k = river l := riverTo_all hge
    have hc : (capTo l k ≤ 1000000000) = (river l ≤ 1000000000) := by
      unfold capTo; rw [hr]; apply propext; split <;> omega
    have hrng : inRange (l.length : Int) 1 6 = (decide (1 ≤ l.length) && decide (l.length ≤ 6)) := by
      rw [Bool.eq_iff_iff, inRange_iff]; simp only [Bool.and_eq_true, decide_eq_true_eq]; omega
    cases h1 : inRange (l.length : Int) 1 6 with
    | false => simp -dsimp -implicitDefEqProofs; rw [RiverOk, ← hrng, h1]; simp
    | true =>
      simp -dsimp -implicitDefEqProofs
      rw [RiverOk, ← hrng, h1]
      simp [hall2, hc]
theorem RiverTotal_spec (l : List Reach) : PureF Tryz.prog n_spec_RiverTotal [.c (.sl 3 (l.map Reach.enc))] (.c (.i (RiverTotal l))) := by
  refine pure_of h_spec_RiverTotal (by simp) fun hwf => ?_
  simp -dsimp -implicitDefEqProofs [c_spec_RiverTotal]
  refine loop_rule (ι := Nat) (fun k => k ≤ l.length ∧ (k ≠ 0 → RiverOk l = true)) (fun k => stOf [(0, .c (.sl 3 (l.map Reach.enc))), (3, .c (.i (riverTo l k))), (4, .c (.i k))] []) (fun k => l.length - k) 0 (by simp) (by apply le_of <;> simp [AV.refs1, AV.ref0, Obj.refs1, riverTo_zero]) ?_
  rintro k ⟨hk, hok⟩
  rcases Nat.lt_or_ge k l.length with hlt | hge
  · obtain ⟨r, hr⟩ : ∃ r, l[k]? = some r := ⟨_, List.getElem?_eq_getElem hlt⟩
    simp -dsimp -implicitDefEqProofs [hr, lt_t hlt]
    intro hlen
    first
      | refine call_lend (RiverOk_spec l) (by simp) rfl ?_
      | refine call_pure (RiverOk_spec l) (by simp) rfl ?_
      | refine ⟨_, _, RiverOk_spec l, by simp, .inr rfl, ?_⟩
      | refine ⟨_, _, RiverOk_spec l, by simp, .inl rfl, ?_⟩
      | refine callE_pure (RiverOk_spec l) (by simp) (.inr rfl) ?_
      | refine callE_pure (RiverOk_spec l) (by simp) (.inl rfl) ?_
    cases h : RiverOk l with
    | false =>
      have : k = 0 := by
        rcases Nat.eq_zero_or_pos k with e | e
        · exact e
        · have := hok (by omega); rw [h] at this; cases this
      subst this
      simp -dsimp -implicitDefEqProofs; rw [river_no h, riverTo_zero]
    | true =>
      have f := riverFacts h
      have sf := sumFacts (f.ok r (List.mem_of_getElem? hr))
      have hb := riverTo_rng (l := l) (k := k + 1) fun x hx => f.ok x (List.mem_of_mem_take hx)
      have e1 := riverTo_succ hr
      have hl6 := f.len
      simp -dsimp -implicitDefEqProofs [hr, lt_t hlt]
      first
        | refine call_lend (l02Sum_c r sf.vol sf.len sf.amt) (by simp) rfl ?_
        | refine call_pure (l02Sum_c r sf.vol sf.len sf.amt) (by simp) rfl ?_
        | refine ⟨_, _, l02Sum_c r sf.vol sf.len sf.amt, by simp, .inr rfl, ?_⟩
        | refine ⟨_, _, l02Sum_c r sf.vol sf.len sf.amt, by simp, .inl rfl, ?_⟩
        | refine callE_pure (l02Sum_c r sf.vol sf.len sf.amt) (by simp) (.inr rfl) ?_
        | refine callE_pure (l02Sum_c r sf.vol sf.len sf.amt) (by simp) (.inl rfl) ?_
      simp -dsimp -implicitDefEqProofs
      refine ⟨by rw [e1] at hb; unfold inI; omega, inI_succ hlt hlen, k + 1, by first | exact ⟨hlt, fun _ => h⟩ | exact hlt, by omega, ?_⟩
      apply le_of <;> simp [AV.refs1, AV.ref0, Obj.refs1, e1]
  · simp -dsimp -implicitDefEqProofs [lt_f hge]
    intro _
    cases h : RiverOk l with
    | true => rw [riverTo_all hge]; simp [RiverTotal, h]
    | false =>
      have : k = 0 := by
        rcases Nat.eq_zero_or_pos k with e | e
        · exact e
        · have := hok (by omega); rw [h] at this; cases this
      subst this
      rw [river_no h, riverTo_zero]

end Go.Proofs.YtpcopekamgapaaaGreat
