/- Contracts of functions of this seat: what each answers, as plain Lean. -/
import Derived.Test.YtenfgllkjgfjpaaMT4
set_option linter.all false
namespace Go.Proofs.Ytenfgllkjgfjpaa
open Go.RowKit

def TariffOk (t : Tariff) : Bool := inRange t.Base 0 10000 && inRange t.PerArea 0 100 && decide (t.PerClass.length = 3) && inRange t.Weights.length 1 11 &&
  t.PerClass.all (fun n => inRange n 0 10000) && t.Weights.all (fun n => inRange n 0 1000) && decide (0 < t.Weights.sum)
theorem inRange_iff {n a b : Int} : inRange n a b = true ↔ a ≤ n ∧ n ≤ b := by simp [inRange]
theorem inRange_not {n a b : Int} : inRange n a b = false ↔ n < a ∨ b < n := by
  simp only [inRange, Bool.and_eq_false_iff, decide_eq_false_iff_not]; omega
theorem sum_bound : ∀ {l : List Int} {b : Int}, (∀ x ∈ l, inRange x 0 b = true) → 0 ≤ l.sum ∧ l.sum ≤ b * l.length
  | [], b, _ => by simp
  | x :: l, b, h => by
    have h1 := sum_bound (l := l) (b := b) fun y hy => h y (by simp [hy])
    have h2 := inRange_iff.1 (h x (by simp))
    simp only [List.sum_cons, List.length_cons, Int.natCast_add, Int.natCast_one, Int.mul_add, Int.mul_one]
    omega
theorem sum_take {l : List Int} {k : Nat} {x : Int} (h : l[k]? = some x) : (l.take (k + 1)).sum = (l.take k).sum + x := by
  rw [List.take_succ, h]; simp

theorem TariffOk_impl (t : Tariff) : PureF Try.prog n_impl_TariffOk [.agg (t.enc.map .c)] (.c (.b (TariffOk t))) := by
  refine pure_of h_impl_TariffOk (by simp) fun hwf => ?_
  simp -dsimp -implicitDefEqProofs [c_impl_TariffOk]
  refine call_lend (inRange_impl t.Base 0 10000) (by simp) rfl ?_
  simp -dsimp -implicitDefEqProofs
  refine ⟨fun h1 => ?_, fun h1 => by simp [TariffOk, h1]⟩
  refine call_lend (inRange_impl t.PerArea 0 100) (by simp) rfl ?_
  simp -dsimp -implicitDefEqProofs
  refine ⟨fun h2 => ?_, fun h2 => by simp [TariffOk, h2]⟩
  intro hc
  refine ⟨fun h3 hw => ⟨fun h4 _ => ⟨fun h5 => ?_, fun h5 _ => ?_⟩, fun h4 => ?_⟩, fun h3 => ?_⟩
  · have : inRange t.Weights.length 1 11 = false := inRange_not.2 (by omega)
    simp [TariffOk, this]
  · have h3' : t.PerClass.length = 3 := by omega
    have h6 : inRange t.Weights.length 1 11 = true := inRange_iff.2 (by omega)
    refine loop_rule (ι := Nat) (fun k => k ≤ t.PerClass.length ∧ ∀ n ∈ t.PerClass.take k, inRange n 0 10000 = true) (fun k => stOf [(1, .box 1 0), (37, .c (.sl 1 (t.PerClass.map ienc))), (38, .c (.i t.PerClass.length)), (39, .c (.i k))] [(1, .box (t.enc.map .c))]) (fun k => t.PerClass.length - k) 0 (by simp) (by apply le_of <;> simp [AV.refs1, AV.ref0, Obj.refs1]) ?_
    rintro k ⟨hk, hall⟩
    rcases Nat.lt_or_ge k t.PerClass.length with hlt | hge
    · obtain ⟨e, he⟩ : ∃ e, t.PerClass[k]? = some e := ⟨_, List.getElem?_eq_getElem hlt⟩
      simp -dsimp -implicitDefEqProofs [he, lt_t hlt]
      refine call_lend (inRange_impl e 0 10000) (by simp) rfl ?_
      simp -dsimp -implicitDefEqProofs
      refine ⟨fun h1 => by simp [TariffOk, all_false (p := fun n => inRange n 0 10000) he h1], fun h1 => ?_⟩
      exact ⟨inI_succ hlt hc, k + 1, ⟨by omega, all_take_succ (p := fun n => inRange n 0 10000) he hall h1⟩, by omega, by apply le_of <;> simp [AV.refs1, AV.ref0, Obj.refs1]⟩
    · have h7 := all_of_take (p := fun n => inRange n 0 10000) hge hall
      simp -dsimp -implicitDefEqProofs [lt_f hge]
      intro _
      refine loop_rule (ι := Nat) (fun k => k ≤ t.Weights.length ∧ ∀ n ∈ t.Weights.take k, inRange n 0 1000 = true) (fun k => stOf [(5, .c (.i (t.Weights.take k).sum)), (48, .c (.sl 1 (t.Weights.map ienc))), (49, .c (.i t.Weights.length)), (50, .c (.i k))] []) (fun k => t.Weights.length - k) 0 (by simp) (by apply le_of <;> simp [AV.refs1, AV.ref0, Obj.refs1]) ?_
      rintro k ⟨hk, hall⟩
      rcases Nat.lt_or_ge k t.Weights.length with hlt | hge
      · obtain ⟨e, he⟩ : ∃ e, t.Weights[k]? = some e := ⟨_, List.getElem?_eq_getElem hlt⟩
        simp -dsimp -implicitDefEqProofs [he, lt_t hlt]
        refine call_lend (inRange_impl e 0 1000) (by simp) rfl ?_
        simp -dsimp -implicitDefEqProofs [he, lt_t hlt]
        refine ⟨fun h1 => by simp [TariffOk, all_false (p := fun n => inRange n 0 1000) he h1], fun h1 => ?_⟩
        have hs := sum_bound hall
        have hx := inRange_iff.1 h1
        have hl : (t.Weights.take k).length ≤ 11 := by simp; omega
        exact ⟨by unfold inI; omega, inI_succ hlt hw, k + 1, ⟨by omega, all_take_succ (p := fun n => inRange n 0 1000) he hall h1⟩, by omega, by apply le_of <;> simp [AV.refs1, AV.ref0, Obj.refs1, sum_take he]⟩
      · have h8 := all_of_take (p := fun n => inRange n 0 1000) hge hall
        simp -dsimp -implicitDefEqProofs [lt_f hge]
        rw [List.take_of_length_le hge]
        simp [TariffOk, h1, h2, h3', h6, h7, h8]
  · have : inRange t.Weights.length 1 11 = false := inRange_not.2 (by omega)
    simp [TariffOk, this]
  · have : ¬ t.PerClass.length = 3 := by omega
    simp [TariffOk, this]
theorem TariffOk_spec (t : Tariff) : PureF Try.prog n_spec_TariffOk [.agg (t.enc.map .c)] (.c (.b (TariffOk t))) := by
  refine pure_of h_spec_TariffOk (by simp) fun hwf => ?_
  simp -dsimp -implicitDefEqProofs [c_spec_TariffOk]
  refine call_lend (inRange_spec t.Base 0 10000) (by simp) rfl ?_
  simp -dsimp -implicitDefEqProofs
  refine ⟨fun h1 => ?_, fun h1 => by simp [TariffOk, h1]⟩
  refine call_lend (inRange_spec t.PerArea 0 100) (by simp) rfl ?_
  simp -dsimp -implicitDefEqProofs
  refine ⟨fun h2 => ?_, fun h2 => by simp [TariffOk, h2]⟩
  intro hc
  refine ⟨fun h3 hw => ?_, fun h3 => ?_⟩
  · have h3' : t.PerClass.length = 3 := by omega
    refine call_lend (inRange_spec t.Weights.length 1 11) (by simp) rfl ?_
    simp -dsimp -implicitDefEqProofs
    refine ⟨fun h6 => ?_, fun h6 => ?_⟩
    · simp [TariffOk, h6]
    have h6' := inRange_iff.1 h6
    refine loop_rule (ι := Nat) (fun k => k ≤ t.PerClass.length ∧ ∀ n ∈ t.PerClass.take k, inRange n 0 10000 = true) (fun k => stOf [(1, .box 1 0), (3, .c (.i k))] [(1, .box (t.enc.map .c))]) (fun k => t.PerClass.length - k) 0 (by simp) (by apply le_of <;> simp [AV.refs1, AV.ref0, Obj.refs1]) ?_
    rintro k ⟨hk, hall⟩
    rcases Nat.lt_or_ge k t.PerClass.length with hlt | hge
    · obtain ⟨e, he⟩ : ∃ e, t.PerClass[k]? = some e := ⟨_, List.getElem?_eq_getElem hlt⟩
      have hlt3 : ((k : Int) < 3) = True := by simp; omega
      simp -dsimp -implicitDefEqProofs [he, hlt3, lt_t hlt]
      refine call_lend (inRange_spec e 0 10000) (by simp) rfl ?_
      simp -dsimp -implicitDefEqProofs
      refine ⟨fun h1 => by simp [TariffOk, all_false (p := fun n => inRange n 0 10000) he h1], fun h1 => ?_⟩
      exact ⟨inI_succ hlt hc, k + 1, ⟨by omega, all_take_succ (p := fun n => inRange n 0 10000) he hall h1⟩, by omega, by apply le_of <;> simp [AV.refs1, AV.ref0, Obj.refs1]⟩
    · have h7 := all_of_take (p := fun n => inRange n 0 10000) hge hall
      have hge3 : ((k : Int) < 3) = False := by simp; omega
      simp -dsimp -implicitDefEqProofs [hge3]
      refine loop_rule (ι := Nat) (fun k => k ≤ t.Weights.length ∧ ∀ n ∈ t.Weights.take k, inRange n 0 1000 = true) (fun k => stOf [(1, .box 1 0), (4, .c (.i (t.Weights.take k).sum)), (5, .c (.i k))] [(1, .box (t.enc.map .c))]) (fun k => t.Weights.length - k) 0 (by simp) (by apply le_of <;> simp [AV.refs1, AV.ref0, Obj.refs1]) ?_
      rintro k ⟨hk, hall⟩
      rcases Nat.lt_or_ge k t.Weights.length with hlt | hge
      · obtain ⟨e, he⟩ : ∃ e, t.Weights[k]? = some e := ⟨_, List.getElem?_eq_getElem hlt⟩
        simp -dsimp -implicitDefEqProofs [he, lt_t hlt]
        intro _
        refine call_lend (inRange_spec e 0 1000) (by simp) rfl ?_
        simp -dsimp -implicitDefEqProofs [he, lt_t hlt]
        refine ⟨fun h1 => by simp [TariffOk, all_false (p := fun n => inRange n 0 1000) he h1], fun h1 => ?_⟩
        have hs := sum_bound hall
        have hx := inRange_iff.1 h1
        have hl : (t.Weights.take k).length ≤ 11 := by simp; omega
        exact ⟨by unfold inI; omega, inI_succ hlt hw, k + 1, ⟨by omega, all_take_succ (p := fun n => inRange n 0 1000) he hall h1⟩, by omega, by apply le_of <;> simp [AV.refs1, AV.ref0, Obj.refs1, sum_take he]⟩
      · have h8 := all_of_take (p := fun n => inRange n 0 1000) hge hall
        simp -dsimp -implicitDefEqProofs [lt_f hge]
        rw [List.take_of_length_le hge]
        simp [TariffOk, h1, h2, h3', h6, h7, h8]
  · have : ¬ t.PerClass.length = 3 := by omega
    simp [TariffOk, this]
theorem FnExactTariffOk_c (t : Tariff) : PureF Try.prog n_laws_FnExactTariffOk [.agg (t.enc.map .c)] (.c (.b true)) := by
  refine pure_of h_laws_FnExactTariffOk (by simp) fun hwf => ?_
  simp -dsimp -implicitDefEqProofs [c_laws_FnExactTariffOk]
  refine call_lend (szTariff_c t) (by simp) rfl ?_
  simp -dsimp -implicitDefEqProofs
  intro hsz
  have hl : t.small := szTariff_ok hsz
  refine call_pure (toTariff_c t hl) (by simp) rfl ?_
  simp -dsimp -implicitDefEqProofs
  refine call_lend (TariffOk_spec t) (by simp) rfl ?_
  simp -dsimp -implicitDefEqProofs
  refine call_pure (toTariff_c t hl) (by simp) rfl ?_
  simp -dsimp -implicitDefEqProofs
  refine call_lend (TariffOk_impl t) (by simp) rfl ?_
  simp -dsimp -implicitDefEqProofs
  refine ⟨_, _, toTariff_c t hl, by simp, .inl rfl, ?_⟩
  simp -dsimp -implicitDefEqProofs
  refine ⟨_, _, eqTariff_c t t, by simp, .inr rfl, ?_⟩
  simp -dsimp -implicitDefEqProofs

end Go.Proofs.Ytenfgllkjgfjpaa
