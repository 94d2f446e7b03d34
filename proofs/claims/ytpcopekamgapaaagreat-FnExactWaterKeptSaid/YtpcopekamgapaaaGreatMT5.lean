/- Contracts of functions of this seat: what each answers, as plain Lean. -/
import Derived.Test.YtpcopekamgapaaaGreatMT4
set_option linter.all false
namespace Go.Proofs.YtpcopekamgapaaaGreat
open Go.RowKit

def sz_Tariff (e : Tariff) (l : Int) : Int := andSz (sz_IntS e.PerClass l) fun l => andSz (sz_IntS e.Weights l) fun l => l
theorem sz_Tariff_ok : SzOk sz_Tariff Tariff.small := by
  intro e l h0 h1
  unfold sz_Tariff
  rcases sz_IntS_ok e.PerClass _ h0 h1 with e0 | ⟨a0, b0, s0⟩
  · exact .inl (andSz_neg (by omega))
  rw [andSz_pos a0]
  rcases sz_IntS_ok e.Weights _ a0 (by omega) with e1 | ⟨a1, b1, s1⟩
  · exact .inl (andSz_neg (by omega))
  rw [andSz_pos a1]
  exact .inr ⟨a1, by omega, s0.1, s1.1⟩
theorem sz_Tariff_c (e : Tariff) (l : Int) (h0 : 0 ≤ l) (h1 : l ≤ 1048576) : PureF Tryz.prog n_laws_szTariff [.agg (e.enc.map .c), .c (.i l)] (.c (.i (sz_Tariff e l))) := by
  refine pure_of h_laws_szTariff (by simp) fun hwf => ?_
  simp -dsimp -implicitDefEqProofs [c_laws_szTariff]
  refine call_lend (sz_IntS_c e.PerClass _ h0 h1) (by simp) rfl ?_
  simp -dsimp -implicitDefEqProofs
  refine ⟨fun h => by simp [sz_Tariff, andSz_neg h], fun p0 => ?_⟩
  have q0 := sz_le sz_IntS_ok e.PerClass h0 h1 p0
  refine call_lend (sz_IntS_c e.Weights _ p0 q0) (by simp) rfl ?_
  simp -dsimp -implicitDefEqProofs
  refine ⟨fun h => by simp [sz_Tariff, andSz_pos p0, andSz_neg h], fun p1 => ?_⟩
  simp [sz_Tariff, andSz_pos p0, andSz_pos p1]
structure TariffFacts (t : Tariff) : Prop where
  base : 0 ≤ t.Base ∧ t.Base ≤ 10000
  area : 0 ≤ t.PerArea ∧ t.PerArea ≤ 100
  three : t.PerClass.length = 3
  cls : ∀ x ∈ t.PerClass, 0 ≤ x ∧ x ≤ 10000
  wlen : 1 ≤ t.Weights.length ∧ t.Weights.length ≤ 11
  wts : ∀ x ∈ t.Weights, 0 ≤ x ∧ x ≤ 1000
  sum : 0 < t.Weights.sum
theorem tariffFacts {t : Tariff} (h : TariffOk t = true) : TariffFacts t := by
  simp only [TariffOk, Bool.and_eq_true, List.all_eq_true, decide_eq_true_eq] at h
  obtain ⟨⟨⟨⟨⟨⟨h1, h2⟩, h3⟩, h4⟩, h5⟩, h6⟩, h7⟩ := h
  have h4 := inRange_iff.1 h4
  exact ⟨inRange_iff.1 h1, inRange_iff.1 h2, h3, fun x hx => inRange_iff.1 (h5 x hx), by omega, fun x hx => inRange_iff.1 (h6 x hx), h7⟩
def TollOf (t : Tariff) (x : Train) : Int := if TariffOk t && TrainOk x then t.Base + (t.PerArea * LengthOf x * WidthOf x).tdiv 100 + t.PerClass[(ClassOf x).toNat]?.getD 0 else 0
theorem toll_bounds {t : Tariff} {x : Train} (h1 : TariffOk t = true) (h2 : TrainOk x = true) :
    ∃ c, t.PerClass[(ClassOf x).toNat]? = some c ∧ 0 ≤ ClassOf x ∧ ClassOf x < t.PerClass.length ∧ inI (t.PerArea * LengthOf x) ∧ inI (t.PerArea * LengthOf x * WidthOf x) ∧ inI ((t.PerArea * LengthOf x * WidthOf x).tdiv 100) ∧
      inI (t.Base + (t.PerArea * LengthOf x * WidthOf x).tdiv 100) ∧ inI (t.Base + (t.PerArea * LengthOf x * WidthOf x).tdiv 100 + c) ∧ 0 ≤ t.Base + (t.PerArea * LengthOf x * WidthOf x).tdiv 100 + c ∧ t.Base + (t.PerArea * LengthOf x * WidthOf x).tdiv 100 + c ≤ 1000000 := by
  have tf := tariffFacts h1
  have a1 := LengthOf_in x
  have a2 := WidthOf_in x
  have a3 := ClassOf_in h2
  have b1 := tf.base; have b2 := tf.area; have b3 := tf.three
  obtain ⟨c, hc⟩ : ∃ c, t.PerClass[(ClassOf x).toNat]? = some c := ⟨_, List.getElem?_eq_getElem (by omega)⟩
  have b4 := tf.cls c (List.mem_of_getElem? hc)
  have e1 : 0 ≤ t.PerArea * LengthOf x := Int.mul_nonneg b2.1 a1.1
  have e2 : t.PerArea * LengthOf x ≤ 100 * 1200 := Int.mul_le_mul b2.2 a1.2 a1.1 (by omega)
  have e3 : 0 ≤ t.PerArea * LengthOf x * WidthOf x := Int.mul_nonneg e1 a2.1
  have e4 : t.PerArea * LengthOf x * WidthOf x ≤ 120000 * 180 := Int.mul_le_mul (by omega) a2.2 a2.1 (by omega)
  have e5 : (t.PerArea * LengthOf x * WidthOf x).tdiv 100 = (t.PerArea * LengthOf x * WidthOf x) / 100 := Int.tdiv_eq_ediv_of_nonneg e3
  rw [e5]
  refine ⟨c, hc, a3.1, by omega, ?_, ?_, ?_, ?_, ?_, by omega, by omega⟩ <;> unfold inI <;> omega
theorem TollOf_in (t : Tariff) (x : Train) : 0 ≤ TollOf t x ∧ TollOf t x ≤ 1000000 := by
  unfold TollOf
  split
  · rename_i h
    rw [Bool.and_eq_true] at h
    obtain ⟨c, hc, _, _, _, _, _, _, _, c1, c2⟩ := toll_bounds h.1 h.2
    rw [hc]; exact ⟨c1, c2⟩
  · omega
end Go.Proofs.YtpcopekamgapaaaGreat
