/- Contracts of functions of this seat: what each answers, as plain Lean. -/
import Derived.Test.YtenfgllkjgfjpaaMT3
set_option linter.all false
namespace Go.Proofs.Ytenfgllkjgfjpaa
open Go.RowKit

abbrev ienc (n : Int) : List C := [.i n]
theorem szS_ok {n : Nat} {left m : Int} (h : szS n left = m) (h0 : 0 ≤ m) : (n : Int) ≤ left ∧ m = left - n := by
  unfold szS at h; split at h <;> omega
theorem szS_le {n : Nat} {left : Int} (h0 : left ≤ 1048576) : szS n left ≤ 1048576 := by
  unfold szS; split <;> omega
theorem szS_neg {n : Nat} {left : Int} (h : szS n left < 0) : szS n left = -1 := by
  unfold szS at *; split at h <;> omega
theorem szIntS_c (es : List Int) (left : Int) (h0 : 0 ≤ left) (h1 : left ≤ 1048576) : PureF Try.prog n_laws_szIntS [.c (.sl 1 (es.map ienc)), .c (.i left)] (.c (.i (szS es.length left))) := by
  refine pure_of h_laws_szIntS (by simp) fun hwf => ?_
  simp -dsimp -implicitDefEqProofs [c_laws_szIntS, szS]
  intro hl
  unfold maxLen at hl
  refine ⟨by unfold inI; omega, fun h => ?_, fun h => ?_⟩ <;> intros <;> omega
theorem toIntS_c (es : List Int) (hl : es.length ≤ 1048576) : PureF Try.prog n_laws_toIntS [.c (.sl 1 (es.map ienc))] (.c (.sl 1 (es.map ienc))) := by
  refine pure_of h_laws_toIntS (by simp) fun hwf => ?_
  simp -dsimp -implicitDefEqProofs [c_laws_toIntS]
  intro hlen
  refine ⟨by omega, ?_⟩
  refine loop_rule (ι := Nat) (fun k => k ≤ es.length) (fun k => stOf [(0, .c (.sl 1 (es.map ienc))), (3, .own 7 1 es.length), (4, .c (.i k))] [(7, .row 1 (partly ienc [.i 0] es k))]) (fun k => es.length - k) 0 (by simp) (by apply le_of <;> simp [AV.refs1, AV.ref0, Obj.refs1, partly_zero]) ?_
  rintro k hk
  rcases Nat.lt_or_ge k es.length with hlt | hge
  · obtain ⟨e, he⟩ : ∃ e, es[k]? = some e := ⟨_, List.getElem?_eq_getElem hlt⟩
    have hs := partly_set (f := ienc) (z := [.i 0]) he
    have hd : ((partly ienc [.i 0] es k)[k]?.getD []).set 0 (.i e) = [.i e] := by
      have := partly_get (f := ienc) (z := [.i 0]) (n := 1) rfl (fun _ => rfl) hlt
      obtain ⟨x, hx⟩ := List.length_eq_one_iff.1 this
      rw [hx]; rfl
    simp -dsimp -implicitDefEqProofs [he, lt_t hlt]
    intro _
    rw [hd, show (partly ienc [.i 0] es k).set k [.i e] = partly ienc [.i 0] es (k + 1) from hs]
    exact ⟨by rw [partly_len hk]; exact hlt, inI_succ hlt hlen, k + 1, hlt, by omega, by apply le_of <;> simp [AV.refs1, AV.ref0, Obj.refs1]⟩
  · simp -dsimp -implicitDefEqProofs [lt_f hge]
    intro _
    rw [partly_all hge, List.take_of_length_le (by simp)]
theorem eqIntS_c (es fs : List Int) : PureF Try.prog n_laws_eqIntS [.c (.sl 1 (es.map ienc)), .c (.sl 1 (fs.map ienc))] (.c (.b (decide (es = fs)))) := by
  refine pure_of h_laws_eqIntS (by simp) fun hwf => ?_
  simp -dsimp -implicitDefEqProofs [c_laws_eqIntS]
  intro hl1 hl2
  refine ⟨fun h e => h (by rw [e]), fun hlen => ?_⟩
  have hlen' : es.length = fs.length := by omega
  refine loop_rule (ι := Nat) (fun k => k ≤ es.length ∧ es.take k = fs.take k) (fun k => stOf [(0, .c (.sl 1 (es.map ienc))), (1, .c (.sl 1 (fs.map ienc))), (5, .c (.i k))] []) (fun k => es.length - k) 0 (by simp) (by apply le_of <;> simp [AV.refs1, AV.ref0, Obj.refs1]) ?_
  rintro k ⟨hk, htk⟩
  rcases Nat.lt_or_ge k es.length with hlt | hge
  · obtain ⟨e, he⟩ : ∃ e, es[k]? = some e := ⟨_, List.getElem?_eq_getElem hlt⟩
    obtain ⟨f, hf⟩ : ∃ f, fs[k]? = some f := ⟨_, List.getElem?_eq_getElem (by omega)⟩
    simp -dsimp -implicitDefEqProofs [he, hf, lt_t hlt, lt_t (hlen' ▸ hlt)]
    intro _
    refine ⟨fun h => ne_of_get he hf h, fun h => ⟨inI_succ hlt hl1, k + 1, ⟨hlt, take_eq_succ he hf htk h⟩, by omega, by apply le_of <;> simp [AV.refs1, AV.ref0, Obj.refs1]⟩⟩
  · simp -dsimp -implicitDefEqProofs [lt_f hge]
    intro _
    exact eq_of_take hge hlen' htk
structure Tariff where
  Base : Int
  PerArea : Int
  PerClass : List Int
  Weights : List Int
  deriving DecidableEq
@[simp] def Tariff.enc (t : Tariff) : List C := [.i t.Base, .i t.PerArea, .sl 1 (t.PerClass.map ienc), .sl 1 (t.Weights.map ienc)]
def Tariff.small (t : Tariff) : Prop := t.PerClass.length ≤ 1048576 ∧ t.Weights.length ≤ 1048576
def szTariff (t : Tariff) (left : Int) : Int := let l := szS t.PerClass.length left; if l < 0 then -1 else szS t.Weights.length l
theorem szTariff_ok {t : Tariff} (h : 0 ≤ szTariff t 1048576) : t.small := by
  unfold szTariff szS at h; simp only at h; unfold Tariff.small
  repeat' split at h
  all_goals omega
theorem szTariff_c (t : Tariff) : PureF Try.prog n_laws_szTariff [.agg (t.enc.map .c), .c (.i 1048576)] (.c (.i (szTariff t 1048576))) := by
  refine pure_of h_laws_szTariff (by simp) fun hwf => ?_
  simp -dsimp -implicitDefEqProofs [c_laws_szTariff]
  refine call_lend (szIntS_c t.PerClass 1048576 (by omega) (by omega)) (by simp) rfl ?_
  simp -dsimp -implicitDefEqProofs
  refine ⟨fun h => by simp [szTariff, h], fun h => ?_⟩
  refine call_lend (szIntS_c t.Weights _ h (szS_le (by omega))) (by simp) rfl ?_
  simp -dsimp -implicitDefEqProofs
  have : szTariff t 1048576 = szS t.Weights.length (szS t.PerClass.length 1048576) := by simp [szTariff, Int.not_lt.2 h]
  rw [this]
  exact ⟨fun h => szS_neg h, fun _ => rfl⟩
theorem toTariff_c (t : Tariff) (h : t.small) : PureF Try.prog n_laws_toTariff [.agg (t.enc.map .c)] (.agg (t.enc.map .c)) := by
  refine pure_of h_laws_toTariff (by simp) fun hwf => ?_
  simp -dsimp -implicitDefEqProofs [c_laws_toTariff]
  refine call_pure (toIntS_c t.PerClass h.1) (by simp) rfl ?_
  simp -dsimp -implicitDefEqProofs
  refine call_pure (toIntS_c t.Weights h.2) (by simp) rfl ?_
  simp -dsimp -implicitDefEqProofs
theorem eqTariff_c (t u : Tariff) : PureF Try.prog n_laws_eqTariff [.agg (t.enc.map .c), .agg (u.enc.map .c)] (.c (.b (decide (t = u)))) := by
  refine pure_of h_laws_eqTariff (by simp) fun hwf => ?_
  obtain ⟨t1, t2, t3, t4⟩ := t
  obtain ⟨u1, u2, u3, u4⟩ := u
  simp -dsimp -implicitDefEqProofs [c_laws_eqTariff, Tariff.mk.injEq]
  refine ⟨fun h => by simp [h], fun h => ⟨fun h1 => by simp [h1], fun h1 => ?_⟩⟩
  refine call_lend (eqIntS_c t3 u3) (by simp) rfl ?_
  simp -dsimp -implicitDefEqProofs
  refine ⟨fun h2 _ _ h3 => absurd h3 h2, fun h2 => ?_⟩
  refine call_lend (eqIntS_c t4 u4) (by simp) rfl ?_
  simp -dsimp -implicitDefEqProofs
  simp [h, h1, h2]

end Go.Proofs.Ytenfgllkjgfjpaa
