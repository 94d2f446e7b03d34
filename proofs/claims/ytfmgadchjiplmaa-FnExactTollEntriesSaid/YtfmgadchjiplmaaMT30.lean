/- Contracts of functions of this seat: what each answers, as plain Lean. -/
import Derived.Test.YtfmgadchjiplmaaMT29
import Derived.Test.YtfmgadchjiplmaaMT5
import Derived.Test.YtfmgadchjiplmaaMT18
set_option linter.all false
namespace Go.Proofs.Ytfmgadchjiplmaa
open Go.RowKit

/-! Tolls, entry by entry. -/
def tollTo (l : List Int) (t w : Int) : Nat → List Entry
  | 0 => []
  | k + 1 => tollTo l t w k ++ (if 0 < vAt l k then [⟨0, k + 1, vAt l k, t, w⟩] else [])
theorem tollTo_zero {l : List Int} {t w : Int} : tollTo l t w 0 = [] := rfl
theorem tollTo_succ {l : List Int} {t w : Int} {k : Nat} : tollTo l t w (k + 1) = tollTo l t w k ++ (if 0 < vAt l k then [⟨0, k + 1, vAt l k, t, w⟩] else []) := rfl
theorem tollTo_len {l : List Int} {t w : Int} : ∀ k : Nat, (tollTo l t w k).length ≤ k
  | 0 => by simp [tollTo]
  | k + 1 => by
    have := tollTo_len (l := l) (t := t) (w := w) k
    rw [tollTo_succ, List.length_append]
    split <;> simp <;> omega
def okToll (t : Tariff) (x : Train) (n : Int) : Bool := TariffOk t && TrainOk x && inRange n 0 1000000
def TollEntries (t : Tariff) (x : Train) (n : Int) : List Entry := if okToll t x n then tollTo (ShareOut (TollOf t x) t.Weights) n (vAt (IdsOf x) 0) (ShareOut (TollOf t x) t.Weights).length else []
theorem tollNo {t : Tariff} {x : Train} {n : Int} (h : okToll t x n = false) : TollEntries t x n = [] := by simp [TollEntries, h]
theorem ids_first {x : Train} (h : TrainOk x = true) : ∃ w, (IdsOf x)[0]? = some w := by
  have tf := trainFacts h
  have h1 := tf.pos
  refine ⟨_, List.getElem?_eq_getElem (show 0 < (IdsOf x).length by rw [IdsOf, if_pos h, List.length_map]; omega)⟩
theorem TollEntries_impl (t : Tariff) (x : Train) (n : Int) (hx : x.small) : OwnF Try.prog n_impl_TollEntries [.agg (t.enc.map .c), .agg (x.enc.map .c), .c (.i n)] (.c (.ow 5 ((TollEntries t x n).map Entry.enc))) := by
  refine own_of h_impl_TollEntries (by simp) fun hwf => ?_
  simp -dsimp -implicitDefEqProofs [c_impl_TollEntries]
  first
    | refine call_lend (TariffOk_impl t) (by simp) rfl ?_
    | refine call_pure (TariffOk_impl t) (by simp) rfl ?_
    | refine ⟨_, _, TariffOk_impl t, by simp, .inr rfl, ?_⟩
    | refine ⟨_, _, TariffOk_impl t, by simp, .inl rfl, ?_⟩
    | refine callE_pure (TariffOk_impl t) (by simp) (.inr rfl) ?_
    | refine callE_pure (TariffOk_impl t) (by simp) (.inl rfl) ?_
  cases h1 : TariffOk t with
  | false => simp -dsimp -implicitDefEqProofs; rw [tollNo (by simp [okToll, h1])]
  | true =>
  simp -dsimp -implicitDefEqProofs
  first
    | refine call_lend (TrainOk_impl x hx) (by simp) rfl ?_
    | refine call_pure (TrainOk_impl x hx) (by simp) rfl ?_
    | refine ⟨_, _, TrainOk_impl x hx, by simp, .inr rfl, ?_⟩
    | refine ⟨_, _, TrainOk_impl x hx, by simp, .inl rfl, ?_⟩
    | refine callE_pure (TrainOk_impl x hx) (by simp) (.inr rfl) ?_
    | refine callE_pure (TrainOk_impl x hx) (by simp) (.inl rfl) ?_
  cases h2 : TrainOk x with
  | false => simp -dsimp -implicitDefEqProofs; rw [tollNo (by simp [okToll, h2])]
  | true =>
  simp -dsimp -implicitDefEqProofs
  first
    | refine call_lend (inRange_impl n 0 1000000) (by simp) rfl ?_
    | refine call_pure (inRange_impl n 0 1000000) (by simp) rfl ?_
    | refine ⟨_, _, inRange_impl n 0 1000000, by simp, .inr rfl, ?_⟩
    | refine ⟨_, _, inRange_impl n 0 1000000, by simp, .inl rfl, ?_⟩
    | refine callE_pure (inRange_impl n 0 1000000) (by simp) (.inr rfl) ?_
    | refine callE_pure (inRange_impl n 0 1000000) (by simp) (.inl rfl) ?_
  cases h3 : inRange n 0 1000000 with
  | false => simp -dsimp -implicitDefEqProofs; rw [tollNo (by simp [okToll, h3])]
  | true =>
  simp -dsimp -implicitDefEqProofs
  have hok : okToll t x n = true := by simp [okToll, h1, h2, h3]
  have he : TollEntries t x n = tollTo (ShareOut (TollOf t x) t.Weights) n (vAt (IdsOf x) 0) (ShareOut (TollOf t x) t.Weights).length := by rw [TollEntries, if_pos hok]
  obtain ⟨w, hw⟩ := ids_first h2
  rw [vAt_eq hw] at he
  rw [he]
  first
    | refine call_lend (IdsOf_implP x hx) (by simp) rfl ?_
    | refine call_pure (IdsOf_implP x hx) (by simp) rfl ?_
    | refine ⟨_, _, IdsOf_implP x hx, by simp, .inr rfl, ?_⟩
    | refine ⟨_, _, IdsOf_implP x hx, by simp, .inl rfl, ?_⟩
    | refine callE_pure (IdsOf_implP x hx) (by simp) (.inr rfl) ?_
    | refine callE_pure (IdsOf_implP x hx) (by simp) (.inl rfl) ?_
  have gw := (List.getElem?_eq_some_iff.1 hw).2
  have lw := (List.getElem?_eq_some_iff.1 hw).1
  simp -dsimp -implicitDefEqProofs [hw, gw, lw]
  first
    | refine call_lend (TollOf_impl t x hx) (by simp) rfl ?_
    | refine call_pure (TollOf_impl t x hx) (by simp) rfl ?_
    | refine ⟨_, _, TollOf_impl t x hx, by simp, .inr rfl, ?_⟩
    | refine ⟨_, _, TollOf_impl t x hx, by simp, .inl rfl, ?_⟩
    | refine callE_pure (TollOf_impl t x hx) (by simp) (.inr rfl) ?_
    | refine callE_pure (TollOf_impl t x hx) (by simp) (.inl rfl) ?_
  simp -dsimp -implicitDefEqProofs
  first
    | refine call_lend (ShareOut_implP (TollOf t x) t.Weights) (by simp) rfl ?_
    | refine call_pure (ShareOut_implP (TollOf t x) t.Weights) (by simp) rfl ?_
    | refine ⟨_, _, ShareOut_implP (TollOf t x) t.Weights, by simp, .inr rfl, ?_⟩
    | refine ⟨_, _, ShareOut_implP (TollOf t x) t.Weights, by simp, .inl rfl, ?_⟩
    | refine callE_pure (ShareOut_implP (TollOf t x) t.Weights) (by simp) (.inr rfl) ?_
    | refine callE_pure (ShareOut_implP (TollOf t x) t.Weights) (by simp) (.inl rfl) ?_
  have hsl := ShareOut_len (TollOf t x) t.Weights
  generalize ShareOut (TollOf t x) t.Weights = sh at *
  simp -dsimp -implicitDefEqProofs
  intro hlen
  refine virt_rule (k0 := 5) 8 5 (by simp) (by simp) (by decide) ?_
  refine loop_rule (ι := Nat) (fun k => k ≤ sh.length) (fun k => stOf [(2, .c (.i n)), (7, .c (.i w)), (8, .own 8 5 (tollTo sh n w k).length), (33, .c (.sl 1 (sh.map ienc))), (34, .c (.i sh.length)), (35, .c (.i k))] [(8, .row 5 ((tollTo sh n w k).map Entry.enc))]) (fun k => sh.length - k) 0 (by simp) (by apply le_of <;> simp [AV.refs1, AV.ref0, Obj.refs1, tollTo_zero]) ?_
  rintro k hk
  have htl := tollTo_len (l := sh) (t := n) (w := w) k
  rcases Nat.lt_or_ge k sh.length with hlt | hge
  · obtain ⟨v, hv⟩ : ∃ v, sh[k]? = some v := ⟨_, List.getElem?_eq_getElem hlt⟩
    have gv := (List.getElem?_eq_some_iff.1 hv).2
    have hs := tollTo_succ (l := sh) (t := n) (w := w) (k := k)
    rw [vAt_eq hv] at hs
    simp -dsimp -implicitDefEqProofs [hv, gv, lt_t hlt, hlt]
    refine ⟨fun h0 => ?_, fun h0 => ?_⟩
    · rw [if_pos (by omega)] at hs
      refine ⟨by unfold inI; omega, by omega, inI_succ hlt hlen, k + 1, hlt, by omega, ?_⟩
      apply le_of <;> simp [AV.refs1, AV.ref0, Obj.refs1, hs]
    · rw [if_neg (by omega), List.append_nil] at hs
      refine ⟨inI_succ hlt hlen, k + 1, hlt, by omega, ?_⟩
      apply le_of <;> simp [AV.refs1, AV.ref0, Obj.refs1, hs]
  · have : k = sh.length := by omega
    subst this
    simp -dsimp -implicitDefEqProofs [take_full]
theorem TollEntries_len (t : Tariff) (x : Train) (n : Int) : (TollEntries t x n).length ≤ 12 := by
  unfold TollEntries
  split
  · have h1 := tollTo_len (l := ShareOut (TollOf t x) t.Weights) (t := n) (w := vAt (IdsOf x) 0) (ShareOut (TollOf t x) t.Weights).length
    have h2 := ShareOut_len (TollOf t x) t.Weights
    omega
  · simp
theorem TollEntries_implP (t : Tariff) (x : Train) (n : Int) (hx : x.small) : PureF Try.prog n_impl_TollEntries [.agg (t.enc.map .c), .agg (x.enc.map .c), .c (.i n)] (.c (.sl 5 ((TollEntries t x n).map Entry.enc))) := (TollEntries_impl t x n hx).pure (by simp)
theorem TollEntries_spec (t : Tariff) (x : Train) (n : Int) (ht : t.small) (hx : x.small) : PureF Try.prog n_spec_TollEntries [.agg (t.enc.map .c), .agg (x.enc.map .c), .c (.i n)] (.c (.sl 5 ((TollEntries t x n).map Entry.enc))) := by
  refine pure_of h_spec_TollEntries (by simp) fun hwf => ?_
  simp -dsimp -implicitDefEqProofs [c_spec_TollEntries]
  first
    | refine call_lend (TariffOk_spec t) (by simp) rfl ?_
    | refine call_pure (TariffOk_spec t) (by simp) rfl ?_
    | refine ⟨_, _, TariffOk_spec t, by simp, .inr rfl, ?_⟩
    | refine ⟨_, _, TariffOk_spec t, by simp, .inl rfl, ?_⟩
    | refine callE_pure (TariffOk_spec t) (by simp) (.inr rfl) ?_
    | refine callE_pure (TariffOk_spec t) (by simp) (.inl rfl) ?_
  cases h1 : TariffOk t with
  | false => simp -dsimp -implicitDefEqProofs; rw [tollNo (by simp [okToll, h1])]
  | true =>
  simp -dsimp -implicitDefEqProofs
  first
    | refine call_lend (TrainOk_spec x hx) (by simp) rfl ?_
    | refine call_pure (TrainOk_spec x hx) (by simp) rfl ?_
    | refine ⟨_, _, TrainOk_spec x hx, by simp, .inr rfl, ?_⟩
    | refine ⟨_, _, TrainOk_spec x hx, by simp, .inl rfl, ?_⟩
    | refine callE_pure (TrainOk_spec x hx) (by simp) (.inr rfl) ?_
    | refine callE_pure (TrainOk_spec x hx) (by simp) (.inl rfl) ?_
  cases h2 : TrainOk x with
  | false => simp -dsimp -implicitDefEqProofs; rw [tollNo (by simp [okToll, h2])]
  | true =>
  simp -dsimp -implicitDefEqProofs
  first
    | refine call_lend (inRange_spec n 0 1000000) (by simp) rfl ?_
    | refine call_pure (inRange_spec n 0 1000000) (by simp) rfl ?_
    | refine ⟨_, _, inRange_spec n 0 1000000, by simp, .inr rfl, ?_⟩
    | refine ⟨_, _, inRange_spec n 0 1000000, by simp, .inl rfl, ?_⟩
    | refine callE_pure (inRange_spec n 0 1000000) (by simp) (.inr rfl) ?_
    | refine callE_pure (inRange_spec n 0 1000000) (by simp) (.inl rfl) ?_
  cases h3 : inRange n 0 1000000 with
  | false => simp -dsimp -implicitDefEqProofs; rw [tollNo (by simp [okToll, h3])]
  | true =>
  simp -dsimp -implicitDefEqProofs
  have hok : okToll t x n = true := by simp [okToll, h1, h2, h3]
  have he : TollEntries t x n = tollTo (ShareOut (TollOf t x) t.Weights) n (vAt (IdsOf x) 0) (ShareOut (TollOf t x) t.Weights).length := by rw [TollEntries, if_pos hok]
  obtain ⟨w, hw⟩ := ids_first h2
  rw [vAt_eq hw] at he
  rw [he]
  have gw := (List.getElem?_eq_some_iff.1 hw).2
  have lw := (List.getElem?_eq_some_iff.1 hw).1
  first
    | refine call_lend (TollOf_spec t x hx) (by simp) rfl ?_
    | refine call_pure (TollOf_spec t x hx) (by simp) rfl ?_
    | refine ⟨_, _, TollOf_spec t x hx, by simp, .inr rfl, ?_⟩
    | refine ⟨_, _, TollOf_spec t x hx, by simp, .inl rfl, ?_⟩
    | refine callE_pure (TollOf_spec t x hx) (by simp) (.inr rfl) ?_
    | refine callE_pure (TollOf_spec t x hx) (by simp) (.inl rfl) ?_
  simp -dsimp -implicitDefEqProofs
  first
    | refine call_lend (ShareOut_spec (TollOf t x) t.Weights ht.2) (by simp) rfl ?_
    | refine call_pure (ShareOut_spec (TollOf t x) t.Weights ht.2) (by simp) rfl ?_
    | refine ⟨_, _, ShareOut_spec (TollOf t x) t.Weights ht.2, by simp, .inr rfl, ?_⟩
    | refine ⟨_, _, ShareOut_spec (TollOf t x) t.Weights ht.2, by simp, .inl rfl, ?_⟩
    | refine callE_pure (ShareOut_spec (TollOf t x) t.Weights ht.2) (by simp) (.inr rfl) ?_
    | refine callE_pure (ShareOut_spec (TollOf t x) t.Weights ht.2) (by simp) (.inl rfl) ?_
  have hsl := ShareOut_len (TollOf t x) t.Weights
  generalize ShareOut (TollOf t x) t.Weights = sh at *
  simp -dsimp -implicitDefEqProofs
  refine loop_rule (ι := Nat) (fun k => k ≤ sh.length) (fun k => stOf [(2, .c (.i n)), (4, .box 4 0), (7, .own 10 5 (tollTo sh n w k).length), (8, .c (.sl 1 (sh.map ienc))), (9, .c (.i k))] [(4, .box (x.enc.map .c)), (10, .row 5 ((tollTo sh n w k).map Entry.enc))]) (fun k => sh.length - k) 0 (by simp) (by apply le_of <;> simp [AV.refs1, AV.ref0, Obj.refs1, tollTo_zero]) ?_
  rintro k hk
  have htl := tollTo_len (l := sh) (t := n) (w := w) k
  rcases Nat.lt_or_ge k sh.length with hlt | hge
  · obtain ⟨v, hv⟩ : ∃ v, sh[k]? = some v := ⟨_, List.getElem?_eq_getElem hlt⟩
    have gv := (List.getElem?_eq_some_iff.1 hv).2
    have hs := tollTo_succ (l := sh) (t := n) (w := w) (k := k)
    rw [vAt_eq hv] at hs
    simp -dsimp -implicitDefEqProofs [hv, gv, lt_t hlt, hlt]
    refine fun hlen => ⟨fun h0 => ?_, fun h0 => ?_⟩
    · rw [if_pos (by omega)] at hs
      refine ⟨by unfold inI; omega, ?_⟩
      first
        | refine call_lend (IdsOf_spec x hx) (by simp) rfl ?_
        | refine call_pure (IdsOf_spec x hx) (by simp) rfl ?_
        | refine ⟨_, _, IdsOf_spec x hx, by simp, .inr rfl, ?_⟩
        | refine ⟨_, _, IdsOf_spec x hx, by simp, .inl rfl, ?_⟩
        | refine callE_pure (IdsOf_spec x hx) (by simp) (.inr rfl) ?_
        | refine callE_pure (IdsOf_spec x hx) (by simp) (.inl rfl) ?_
      simp -dsimp -implicitDefEqProofs [hw, gw, lw]
      refine ⟨by omega, inI_succ hlt hlen, k + 1, hlt, by omega, ?_⟩
      apply le_of <;> simp [AV.refs1, AV.ref0, Obj.refs1, hs]
    · rw [if_neg (by omega), List.append_nil] at hs
      refine ⟨inI_succ hlt hlen, k + 1, hlt, by omega, ?_⟩
      apply le_of <;> simp [AV.refs1, AV.ref0, Obj.refs1, hs]
  · have : k = sh.length := by omega
    subst this
    simp -dsimp -implicitDefEqProofs [take_full]

end Go.Proofs.Ytfmgadchjiplmaa
