/- Contracts of functions of this seat: what each answers, as plain Lean. -/
import Derived.Test.YtpcopekamgapaaaGreatMT5
set_option linter.all false
namespace Go.Proofs.YtpcopekamgapaaaGreat
open Go.RowKit

theorem take_all0 {α β : Type} {f : α → β} {l : List α} : (l.map f).take l.length = l.map f := List.take_of_length_le (by simp)
def IdsOf (t : Train) : List Int := if TrainOk t then t.boats.map idOf else []
def idsTo2 (t : Train) (k : Nat) : List Int := (t.boats.take k).map idOf
theorem idsTo2_zero {t : Train} : idsTo2 t 0 = [] := rfl
theorem idsTo2_succ {t : Train} {k : Nat} {b : Boat} (h : t.boats[k]? = some b) : idsTo2 t (k + 1) = idsTo2 t k ++ [b.Id] := by
  unfold idsTo2; rw [List.take_succ, h, List.map_append]; rfl
theorem idsTo2_all {t : Train} {k : Nat} (h : t.boats.length ≤ k) : idsTo2 t k = t.boats.map idOf := by
  unfold idsTo2; rw [List.take_of_length_le h]
theorem idsTo2_len {t : Train} {k : Nat} (h : k ≤ t.boats.length) : (idsTo2 t k).length = k := by
  unfold idsTo2; simp; omega
theorem IdsOf_implP (t : Train) (h : t.small) : PureF Tryz.prog n_impl_IdsOf [.agg (t.enc.map .c)] (.c (.sl 1 ((IdsOf t).map ienc))) := by
  refine pure_of h_impl_IdsOf (by simp) fun hwf => ?_
  simp -dsimp -implicitDefEqProofs [c_impl_IdsOf]
  first
    | refine call_lend (TrainOk_impl t h) (by simp) rfl ?_
    | refine call_pure (TrainOk_impl t h) (by simp) rfl ?_
    | refine ⟨_, _, TrainOk_impl t h, by simp, .inr rfl, ?_⟩
    | refine ⟨_, _, TrainOk_impl t h, by simp, .inl rfl, ?_⟩
    | refine callE_pure (TrainOk_impl t h) (by simp) (.inr rfl) ?_
    | refine callE_pure (TrainOk_impl t h) (by simp) (.inl rfl) ?_
  cases h1 : TrainOk t with
  | false => simp -dsimp -implicitDefEqProofs; simp [IdsOf, h1]
  | true =>
    have tf := trainFacts h1
    have h6 := tf.len
    simp -dsimp -implicitDefEqProofs
    first
      | refine call_lend (boatsOf_c t h) (by simp) rfl ?_
      | refine call_pure (boatsOf_c t h) (by simp) rfl ?_
      | refine ⟨_, _, boatsOf_c t h, by simp, .inr rfl, ?_⟩
      | refine ⟨_, _, boatsOf_c t h, by simp, .inl rfl, ?_⟩
      | refine callE_pure (boatsOf_c t h) (by simp) (.inr rfl) ?_
      | refine callE_pure (boatsOf_c t h) (by simp) (.inl rfl) ?_
    simp -dsimp -implicitDefEqProofs
    intro hlen
    refine virt_rule (k0 := 1) 3 1 (by simp) (by simp) (by decide) ?_
    refine loop_rule (ι := Nat) (fun k => k ≤ t.boats.length) (fun k => stOf [(3, .own 3 1 (idsTo2 t k).length), (10, .c (.sl 6 (t.boats.map Boat.enc))), (11, .c (.i t.boats.length)), (12, .c (.i k))] [(3, .row 1 ((idsTo2 t k).map ienc))]) (fun k => t.boats.length - k) 0 (by simp) (by apply le_of <;> simp [AV.refs1, AV.ref0, Obj.refs1, idsTo2_zero]) ?_
    rintro k hk
    have hkl := idsTo2_len hk
    rcases Nat.lt_or_ge k t.boats.length with hlt | hge
    · obtain ⟨b, hb⟩ : ∃ b, t.boats[k]? = some b := ⟨_, List.getElem?_eq_getElem hlt⟩
      simp -dsimp -implicitDefEqProofs [hb, lt_t hlt]
      refine ⟨by omega, inI_succ hlt hlen, k + 1, hlt, by omega, ?_⟩
      apply le_of <;> simp [AV.refs1, AV.ref0, Obj.refs1, idsTo2_succ hb]
    · simp -dsimp -implicitDefEqProofs [lt_f hge]
      rw [take_all0, idsTo2_all hge]
      simp [IdsOf, h1]
theorem IdsOf_spec (t : Train) (h : t.small) : PureF Tryz.prog n_spec_IdsOf [.agg (t.enc.map .c)] (.c (.sl 1 ((IdsOf t).map ienc))) := by
  refine pure_of h_spec_IdsOf (by simp) fun hwf => ?_
  simp -dsimp -implicitDefEqProofs [c_spec_IdsOf]
  first
    | refine call_lend (l04Boats_c t h) (by simp) rfl ?_
    | refine call_pure (l04Boats_c t h) (by simp) rfl ?_
    | refine ⟨_, _, l04Boats_c t h, by simp, .inr rfl, ?_⟩
    | refine ⟨_, _, l04Boats_c t h, by simp, .inl rfl, ?_⟩
    | refine callE_pure (l04Boats_c t h) (by simp) (.inr rfl) ?_
    | refine callE_pure (l04Boats_c t h) (by simp) (.inl rfl) ?_
  simp -dsimp -implicitDefEqProofs
  refine loop_rule (ι := Nat) (fun k => k ≤ t.boats.length ∧ (k ≠ 0 → TrainOk t = true)) (fun k => stOf [(1, .box 1 0), (3, .own 6 1 (idsTo2 t k).length), (4, .c (.sl 6 (t.boats.map Boat.enc))), (5, .c (.i k))] [(1, .box (t.enc.map .c)), (6, .row 1 ((idsTo2 t k).map ienc))]) (fun k => t.boats.length - k) 0 (by simp) (by apply le_of <;> simp [AV.refs1, AV.ref0, Obj.refs1, idsTo2_zero]) ?_
  rintro k ⟨hk, hok⟩
  have hkl := idsTo2_len hk
  have fin : TrainOk t = false → k = 0 := fun h1 => by
    rcases Nat.eq_zero_or_pos k with e | e
    · exact e
    · rw [hok (by omega)] at h1; cases h1
  rcases Nat.lt_or_ge k t.boats.length with hlt | hge
  · obtain ⟨b, hb⟩ : ∃ b, t.boats[k]? = some b := ⟨_, List.getElem?_eq_getElem hlt⟩
    simp -dsimp -implicitDefEqProofs [hb, lt_t hlt]
    intro hlen
    first
      | refine call_lend (TrainOk_spec t h) (by simp) rfl ?_
      | refine call_pure (TrainOk_spec t h) (by simp) rfl ?_
      | refine ⟨_, _, TrainOk_spec t h, by simp, .inr rfl, ?_⟩
      | refine ⟨_, _, TrainOk_spec t h, by simp, .inl rfl, ?_⟩
      | refine callE_pure (TrainOk_spec t h) (by simp) (.inr rfl) ?_
      | refine callE_pure (TrainOk_spec t h) (by simp) (.inl rfl) ?_
    cases h1 : TrainOk t with
    | false =>
      have := fin h1
      subst this
      simp -dsimp -implicitDefEqProofs
      simp [IdsOf, h1, idsTo2_zero]
    | true =>
      have h6 := (trainFacts h1).len
      simp -dsimp -implicitDefEqProofs [hb, lt_t hlt]
      refine ⟨by omega, inI_succ hlt hlen, k + 1, by first | exact ⟨hlt, fun _ => h1⟩ | exact hlt, by omega, ?_⟩
      apply le_of <;> simp [AV.refs1, AV.ref0, Obj.refs1, idsTo2_succ hb]
  · simp -dsimp -implicitDefEqProofs [lt_f hge]
    intro _
    rw [take_all0]
    by_cases h1 : TrainOk t = true
    · rw [idsTo2_all hge]; simp [IdsOf, h1]
    · have := fin (by simpa using h1)
      subst this
      simp [IdsOf, h1, idsTo2_zero]
theorem Ids_len {t : Train} (h : TrainOk t = true) : (IdsOf t).length ≤ 6 := by
  have := (trainFacts h).len
  simp [IdsOf, h]; omega
theorem Ids_nd {t : Train} (h : TrainOk t = true) : (IdsOf t).Nodup := by
  have := (trainFacts h).nd
  simp only [IdsOf, h, if_true]; exact this

end Go.Proofs.YtpcopekamgapaaaGreat
