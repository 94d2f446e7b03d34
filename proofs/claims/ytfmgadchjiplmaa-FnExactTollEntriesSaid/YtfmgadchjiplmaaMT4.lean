/- Contracts of functions of this seat: what each answers, as plain Lean. -/
import Derived.Test.YtfmgadchjiplmaaMT2
import Derived.Test.YtfmgadchjiplmaaMTy2
import Derived.Test.YtfmgadchjiplmaaMCode5
import Derived.Test.YtfmgadchjiplmaaMCode6
set_option linter.all false
namespace Go.Proofs.Ytfmgadchjiplmaa
open Go.RowKit

theorem rows_le {t : Train} (h : TrainFacts t) : t.Rows.length ≤ 6 := by
  have : ∀ l : List (List Boat), (∀ r ∈ l, full r = true) → l.length ≤ l.flatten.length := by
    intro l
    induction l with
    | nil => simp
    | cons r l ih =>
      intro hl
      have e1 := ih fun x hx => hl x (by simp [hx])
      have e2 := full_iff.1 (hl r (by simp))
      simp only [List.length_cons, List.flatten_cons, List.length_append]; omega
  have h1 := this t.Rows h.rows
  have h2 := h.len
  unfold Train.boats at h2
  omega
theorem row_facts {t : Train} (h : TrainFacts t) {k : Nat} {r : List Boat} (hr : t.Rows[k]? = some r) : 1 ≤ r.length ∧ r.length ≤ 6 ∧ ∀ b ∈ r, BoatOk b = true := by
  have h1 := full_iff.1 (h.rows r (List.mem_of_getElem? hr))
  obtain ⟨m, e⟩ := boats_split hr
  have h2 := h.len
  rw [e] at h2
  simp only [List.length_append] at h2
  exact ⟨by omega, by omega, fun b hb => h.ok b (by rw [e]; simp [hb])⟩
/-- Sums over the first k. -/
def sumF {α : Type} (f : α → Int) (l : List α) (k : Nat) : Int := ((l.take k).map f).sum
theorem sumF_zero {α : Type} {f : α → Int} {l : List α} : sumF f l 0 = 0 := rfl
theorem sumF_succ {α : Type} {f : α → Int} {l : List α} {k : Nat} {x : α} (h : l[k]? = some x) : sumF f l (k + 1) = sumF f l k + f x := by
  unfold sumF; rw [List.take_succ, h, List.map_append, List.sum_append]; simp
theorem sumF_all {α : Type} {f : α → Int} {l : List α} {k : Nat} (h : l.length ≤ k) : sumF f l k = (l.map f).sum := by
  unfold sumF; rw [List.take_of_length_le h]
theorem sumF_in {α : Type} {f : α → Int} {l : List α} {c : Int} (hc : 0 ≤ c) (h : ∀ x ∈ l, 0 ≤ f x ∧ f x ≤ c) : ∀ k : Nat, 0 ≤ sumF f l k ∧ sumF f l k ≤ c * k
  | 0 => by simp [sumF_zero]
  | k + 1 => by
    have ih := sumF_in hc h k
    have e : c * ((k + 1 : Nat) : Int) = c * k + c := by rw [Int.natCast_add, Int.mul_add]; simp
    cases hk : l[k]? with
    | none =>
      have : l.length ≤ k := by simpa using hk
      have e2 : sumF f l (k + 1) = sumF f l k := by unfold sumF; rw [List.take_of_length_le (by omega), List.take_of_length_le this]
      rw [e2, e]; omega
    | some x =>
      have := h x (List.mem_of_getElem? hk)
      rw [sumF_succ hk, e]; omega
def rowLen (r : List Boat) : Int := maxOf Boat.Length r 0
def LengthOf (t : Train) : Int := if TrainOk t then (t.Rows.map rowLen).sum else 0
theorem rowLen_in {r : List Boat} (h : ∀ b ∈ r, BoatOk b = true) : 0 ≤ rowLen r ∧ rowLen r ≤ 200 :=
  maxOf_in (fun x hx => by have := boatFacts (h x hx); omega) (by omega) (by omega)
theorem lenTo_in {t : Train} (h : TrainFacts t) {k : Nat} (hk : k ≤ t.Rows.length) : 0 ≤ sumF rowLen t.Rows k ∧ sumF rowLen t.Rows k ≤ 1200 := by
  have h1 := sumF_in (f := rowLen) (l := t.Rows) (c := 200) (by omega) (fun r hr => by
    obtain ⟨i, hi⟩ := List.getElem?_of_mem hr
    exact rowLen_in (row_facts h hi).2.2) k
  have := rows_le h
  omega
theorem LengthOf_in (t : Train) : 0 ≤ LengthOf t ∧ LengthOf t ≤ 1200 := by
  unfold LengthOf
  split
  · rename_i h
    have := lenTo_in (trainFacts h) (Nat.le_refl _)
    rw [sumF_all (Nat.le_refl _)] at this; exact this
  · omega
theorem LengthOf_impl (t : Train) (h : t.small) : PureF Try.prog n_impl_LengthOf [.agg (t.enc.map .c)] (.c (.i (LengthOf t))) := by
  refine pure_of h_impl_LengthOf (by simp) fun hwf => ?_
  simp -dsimp -implicitDefEqProofs [c_impl_LengthOf]
  first
    | refine call_lend (TrainOk_impl t h) (by simp) rfl ?_
    | refine call_pure (TrainOk_impl t h) (by simp) rfl ?_
    | refine ⟨_, _, TrainOk_impl t h, by simp, .inr rfl, ?_⟩
    | refine ⟨_, _, TrainOk_impl t h, by simp, .inl rfl, ?_⟩
    | refine callE_pure (TrainOk_impl t h) (by simp) (.inr rfl) ?_
    | refine callE_pure (TrainOk_impl t h) (by simp) (.inl rfl) ?_
  simp -dsimp -implicitDefEqProofs
  refine ⟨fun h1 => by simp [LengthOf, h1], fun h1 hlen => ?_⟩
  have tf := trainFacts h1
  refine loop_rule (ι := Nat) (fun k => k ≤ t.Rows.length) (fun k => stOf [(3, .c (.i (sumF rowLen t.Rows k))), (13, .c (.sl 1 (t.Rows.map enc_BoatS))), (14, .c (.i t.Rows.length)), (15, .c (.i k))] []) (fun k => t.Rows.length - k) 0 (by simp) (by apply le_of <;> simp [AV.refs1, AV.ref0, Obj.refs1, sumF_zero]) ?_
  rintro k hk
  rcases Nat.lt_or_ge k t.Rows.length with hlt | hge
  · obtain ⟨r, hr⟩ : ∃ r, t.Rows[k]? = some r := ⟨_, List.getElem?_eq_getElem hlt⟩
    simp -dsimp -implicitDefEqProofs [hr, lt_t hlt]
    intro hrl
    refine loop_rule (ι := Nat) (fun j => j ≤ r.length) (fun j => stOf [(3, .c (.i (sumF rowLen t.Rows k))), (13, .c (.sl 1 (t.Rows.map enc_BoatS))), (14, .c (.i t.Rows.length)), (15, .c (.i k)), (6, .c (.i (maxTo Boat.Length r 0 j))), (19, .c (.sl 6 (r.map Boat.enc))), (20, .c (.i r.length)), (21, .c (.i j))] []) (fun j => r.length - j) 0 (by simp) (by apply le_of <;> simp [AV.refs1, AV.ref0, Obj.refs1, maxTo_zero]) ?_
    rintro j hj
    rcases Nat.lt_or_ge j r.length with hlt2 | hge2
    · obtain ⟨b, hb⟩ : ∃ b, r[j]? = some b := ⟨_, List.getElem?_eq_getElem hlt2⟩
      simp -dsimp -implicitDefEqProofs [hb, lt_t hlt2]
      refine ⟨inI_succ hlt2 hrl, j + 1, hlt2, by omega, ?_⟩
      apply le_of <;> simp [AV.refs1, AV.ref0, Obj.refs1, maxTo_succ hb]
    · simp -dsimp -implicitDefEqProofs [lt_f hge2]
      have b1 := lenTo_in tf hk
      have b2 := lenTo_in tf (show k + 1 ≤ t.Rows.length from hlt)
      have e := sumF_succ (f := rowLen) hr
      rw [maxTo_all hge2]
      have e' : sumF rowLen t.Rows (k + 1) = sumF rowLen t.Rows k + maxOf Boat.Length r 0 := e
      refine ⟨by unfold inI; omega, inI_succ hlt hlen, k + 1, hlt, by omega, ?_⟩
      apply le_of <;> simp [AV.refs1, AV.ref0, Obj.refs1, e']
  · simp -dsimp -implicitDefEqProofs [lt_f hge]
    simp [LengthOf, h1, sumF_all hge]
theorem LengthOf_spec (t : Train) (h : t.small) : PureF Try.prog n_spec_LengthOf [.agg (t.enc.map .c)] (.c (.i (LengthOf t))) := by
  refine pure_of h_spec_LengthOf (by simp) fun hwf => ?_
  simp -dsimp -implicitDefEqProofs [c_spec_LengthOf]
  refine loop_rule (ι := Nat) (fun k => k ≤ t.Rows.length ∧ (k ≠ 0 → TrainOk t = true)) (fun k => stOf [(1, .box 1 0), (3, .c (.i (sumF rowLen t.Rows k))), (4, .c (.i k))] [(1, .box (t.enc.map .c))]) (fun k => t.Rows.length - k) 0 (by simp) (by apply le_of <;> simp [AV.refs1, AV.ref0, Obj.refs1, sumF_zero]) ?_
  rintro k ⟨hk, hok⟩
  have fin : TrainOk t = false → k = 0 := fun h1 => by
    rcases Nat.eq_zero_or_pos k with e | e
    · exact e
    · rw [hok (by omega)] at h1; cases h1
  rcases Nat.lt_or_ge k t.Rows.length with hlt | hge
  · obtain ⟨r, hr⟩ : ∃ r, t.Rows[k]? = some r := ⟨_, List.getElem?_eq_getElem hlt⟩
    simp -dsimp -implicitDefEqProofs [hr, lt_t hlt]
    intro hlen
    first
      | refine call_lend (TrainOk_spec t h) (by simp) rfl ?_
      | refine call_pure (TrainOk_spec t h) (by simp) rfl ?_
      | refine ⟨_, _, TrainOk_spec t h, by simp, .inr rfl, ?_⟩
      | refine ⟨_, _, TrainOk_spec t h, by simp, .inl rfl, ?_⟩
      | refine callE_pure (TrainOk_spec t h) (by simp) (.inr rfl) ?_
      | refine callE_pure (TrainOk_spec t h) (by simp) (.inl rfl) ?_
    simp -dsimp -implicitDefEqProofs [hr, lt_t hlt]
    refine ⟨fun h1 => ?_, fun h1 => ?_⟩
    · have tf := trainFacts h1
      refine loop_rule (ι := Nat) (fun j => j ≤ r.length) (fun j => stOf [(1, .box 1 0), (3, .c (.i (sumF rowLen t.Rows k))), (4, .c (.i k)), (5, .c (.i (maxTo Boat.Length r 0 j))), (6, .c (.i j))] [(1, .box (t.enc.map .c))]) (fun j => r.length - j) 0 (by simp) (by apply le_of <;> simp [AV.refs1, AV.ref0, Obj.refs1, maxTo_zero]) ?_
      rintro j hj
      rcases Nat.lt_or_ge j r.length with hlt2 | hge2
      · obtain ⟨b, hb⟩ : ∃ b, r[j]? = some b := ⟨_, List.getElem?_eq_getElem hlt2⟩
        simp -dsimp -implicitDefEqProofs [hr, lt_t hlt, hb, lt_t hlt2]
        intro hrl
        refine ⟨inI_succ hlt2 hrl, j + 1, hlt2, by omega, ?_⟩
        apply le_of <;> simp [AV.refs1, AV.ref0, Obj.refs1, maxTo_succ hb]
      · simp -dsimp -implicitDefEqProofs [hr, lt_t hlt, lt_f hge2]
        have b1 := lenTo_in tf hk
        have b2 := lenTo_in tf (show k + 1 ≤ t.Rows.length from hlt)
        have e' : sumF rowLen t.Rows (k + 1) = sumF rowLen t.Rows k + maxOf Boat.Length r 0 := sumF_succ (f := rowLen) hr
        rw [maxTo_all hge2]
        refine fun _ => ⟨by unfold inI; omega, inI_succ hlt hlen, k + 1, ⟨hlt, fun _ => h1⟩, by omega, ?_⟩
        apply le_of <;> simp [AV.refs1, AV.ref0, Obj.refs1, e']
    · have := fin h1
      subst this
      simp [LengthOf, h1, sumF_zero]
  · simp -dsimp -implicitDefEqProofs [lt_f hge]
    intro _
    by_cases h1 : TrainOk t = true
    · simp [LengthOf, h1, sumF_all hge]
    · have := fin (by simpa using h1)
      subst this
      simp [LengthOf, h1, sumF_zero]
/-- The width. -/
def rowWid (r : List Boat) : Int := (r.map Boat.Width).sum
def maxR (l : List (List Boat)) : Int := l.foldl (fun m r => if m < rowWid r then rowWid r else m) 0
def maxRTo (l : List (List Boat)) (k : Nat) : Int := maxR (l.take k)
theorem maxRTo_zero {l : List (List Boat)} : maxRTo l 0 = 0 := rfl
theorem maxRTo_succ {l : List (List Boat)} {k : Nat} {r : List Boat} (h : l[k]? = some r) : maxRTo l (k + 1) = if maxRTo l k < rowWid r then rowWid r else maxRTo l k := by
  unfold maxRTo maxR; rw [List.take_succ, h, List.foldl_append]; rfl
theorem maxRTo_all {l : List (List Boat)} {k : Nat} (h : l.length ≤ k) : maxRTo l k = maxR l := by
  unfold maxRTo; rw [List.take_of_length_le h]
def WidthOf (t : Train) : Int := if TrainOk t then maxR t.Rows else 0
theorem widTo_in {r : List Boat} (h : ∀ b ∈ r, BoatOk b = true) (h6 : r.length ≤ 6) {k : Nat} (hk : k ≤ r.length) : 0 ≤ sumF Boat.Width r k ∧ sumF Boat.Width r k ≤ 180 := by
  have := sumF_in (f := Boat.Width) (l := r) (c := 30) (by omega) (fun b hb => by have := boatFacts (h b hb); omega) k
  omega
theorem maxR_in {l : List (List Boat)} (h : ∀ r ∈ l, 0 ≤ rowWid r ∧ rowWid r ≤ 180) : 0 ≤ maxR l ∧ maxR l ≤ 180 := by
  unfold maxR
  have : ∀ (l : List (List Boat)) (z : Int), (∀ r ∈ l, 0 ≤ rowWid r ∧ rowWid r ≤ 180) → 0 ≤ z → z ≤ 180 → 0 ≤ l.foldl (fun m r => if m < rowWid r then rowWid r else m) z ∧ l.foldl (fun m r => if m < rowWid r then rowWid r else m) z ≤ 180 := by
    intro l
    induction l with
    | nil => intro z _ h1 h2; exact ⟨h1, h2⟩
    | cons r l ih =>
      intro z h h1 h2
      have := h r (by simp)
      rw [List.foldl_cons]
      refine ih _ (fun y hy => h y (by simp [hy])) ?_ ?_ <;> split <;> omega
  exact this l 0 h (by omega) (by omega)
theorem WidthOf_in (t : Train) : 0 ≤ WidthOf t ∧ WidthOf t ≤ 180 := by
  unfold WidthOf
  split
  · rename_i h
    refine maxR_in fun r hr => ?_
    obtain ⟨i, hi⟩ := List.getElem?_of_mem hr
    obtain ⟨a1, a2, a3⟩ := row_facts (trainFacts h) hi
    have := widTo_in a3 a2 (Nat.le_refl _)
    rw [sumF_all (Nat.le_refl _)] at this; exact this
  · omega
theorem WidthOf_impl (t : Train) (h : t.small) : PureF Try.prog n_impl_WidthOf [.agg (t.enc.map .c)] (.c (.i (WidthOf t))) := by
  refine pure_of h_impl_WidthOf (by simp) fun hwf => ?_
  simp -dsimp -implicitDefEqProofs [c_impl_WidthOf]
  first
    | refine call_lend (TrainOk_impl t h) (by simp) rfl ?_
    | refine call_pure (TrainOk_impl t h) (by simp) rfl ?_
    | refine ⟨_, _, TrainOk_impl t h, by simp, .inr rfl, ?_⟩
    | refine ⟨_, _, TrainOk_impl t h, by simp, .inl rfl, ?_⟩
    | refine callE_pure (TrainOk_impl t h) (by simp) (.inr rfl) ?_
    | refine callE_pure (TrainOk_impl t h) (by simp) (.inl rfl) ?_
  simp -dsimp -implicitDefEqProofs
  refine ⟨fun h1 => by simp [WidthOf, h1], fun h1 hlen => ?_⟩
  have tf := trainFacts h1
  refine loop_rule (ι := Nat) (fun k => k ≤ t.Rows.length) (fun k => stOf [(3, .c (.i (maxRTo t.Rows k))), (13, .c (.sl 1 (t.Rows.map enc_BoatS))), (14, .c (.i t.Rows.length)), (15, .c (.i k))] []) (fun k => t.Rows.length - k) 0 (by simp) (by apply le_of <;> simp [AV.refs1, AV.ref0, Obj.refs1, maxRTo_zero]) ?_
  rintro k hk
  rcases Nat.lt_or_ge k t.Rows.length with hlt | hge
  · obtain ⟨r, hr⟩ : ∃ r, t.Rows[k]? = some r := ⟨_, List.getElem?_eq_getElem hlt⟩
    obtain ⟨a1, a2, a3⟩ := row_facts tf hr
    simp -dsimp -implicitDefEqProofs [hr, lt_t hlt]
    intro hrl
    refine loop_rule (ι := Nat) (fun j => j ≤ r.length) (fun j => stOf [(3, .c (.i (maxRTo t.Rows k))), (13, .c (.sl 1 (t.Rows.map enc_BoatS))), (14, .c (.i t.Rows.length)), (15, .c (.i k)), (6, .c (.i (sumF Boat.Width r j))), (19, .c (.sl 6 (r.map Boat.enc))), (20, .c (.i r.length)), (21, .c (.i j))] []) (fun j => r.length - j) 0 (by simp) (by apply le_of <;> simp [AV.refs1, AV.ref0, Obj.refs1, sumF_zero]) ?_
    rintro j hj
    rcases Nat.lt_or_ge j r.length with hlt2 | hge2
    · obtain ⟨b, hb⟩ : ∃ b, r[j]? = some b := ⟨_, List.getElem?_eq_getElem hlt2⟩
      have b1 := widTo_in a3 a2 (show j + 1 ≤ r.length from hlt2)
      have e := sumF_succ (f := Boat.Width) hb
      simp -dsimp -implicitDefEqProofs [hb, lt_t hlt2]
      refine ⟨by unfold inI; omega, inI_succ hlt2 hrl, j + 1, hlt2, by omega, ?_⟩
      apply le_of <;> simp [AV.refs1, AV.ref0, Obj.refs1, e]
    · simp -dsimp -implicitDefEqProofs [lt_f hge2]
      rw [sumF_all hge2]
      have e : maxRTo t.Rows (k + 1) = if maxRTo t.Rows k < (r.map Boat.Width).sum then (r.map Boat.Width).sum else maxRTo t.Rows k := maxRTo_succ hr
      refine ⟨inI_succ hlt hlen, k + 1, hlt, by omega, ?_⟩
      apply le_of <;> simp [AV.refs1, AV.ref0, Obj.refs1, e]
  · simp -dsimp -implicitDefEqProofs [lt_f hge]
    simp [WidthOf, h1, maxRTo_all hge]
theorem WidthOf_spec (t : Train) (h : t.small) : PureF Try.prog n_spec_WidthOf [.agg (t.enc.map .c)] (.c (.i (WidthOf t))) := by
  refine pure_of h_spec_WidthOf (by simp) fun hwf => ?_
  simp -dsimp -implicitDefEqProofs [c_spec_WidthOf]
  refine loop_rule (ι := Nat) (fun k => k ≤ t.Rows.length ∧ (k ≠ 0 → TrainOk t = true)) (fun k => stOf [(1, .box 1 0), (3, .c (.i (maxRTo t.Rows k))), (4, .c (.i k))] [(1, .box (t.enc.map .c))]) (fun k => t.Rows.length - k) 0 (by simp) (by apply le_of <;> simp [AV.refs1, AV.ref0, Obj.refs1, maxRTo_zero]) ?_
  rintro k ⟨hk, hok⟩
  have fin : TrainOk t = false → k = 0 := fun h1 => by
    rcases Nat.eq_zero_or_pos k with e | e
    · exact e
    · rw [hok (by omega)] at h1; cases h1
  rcases Nat.lt_or_ge k t.Rows.length with hlt | hge
  · obtain ⟨r, hr⟩ : ∃ r, t.Rows[k]? = some r := ⟨_, List.getElem?_eq_getElem hlt⟩
    simp -dsimp -implicitDefEqProofs [hr, lt_t hlt]
    intro hlen
    first
      | refine call_lend (TrainOk_spec t h) (by simp) rfl ?_
      | refine call_pure (TrainOk_spec t h) (by simp) rfl ?_
      | refine ⟨_, _, TrainOk_spec t h, by simp, .inr rfl, ?_⟩
      | refine ⟨_, _, TrainOk_spec t h, by simp, .inl rfl, ?_⟩
      | refine callE_pure (TrainOk_spec t h) (by simp) (.inr rfl) ?_
      | refine callE_pure (TrainOk_spec t h) (by simp) (.inl rfl) ?_
    simp -dsimp -implicitDefEqProofs [hr, lt_t hlt]
    refine ⟨fun h1 => ?_, fun h1 => ?_⟩
    · have tf := trainFacts h1
      obtain ⟨a1, a2, a3⟩ := row_facts tf hr
      refine loop_rule (ι := Nat) (fun j => j ≤ r.length) (fun j => stOf [(1, .box 1 0), (3, .c (.i (maxRTo t.Rows k))), (4, .c (.i k)), (5, .c (.i (sumF Boat.Width r j))), (6, .c (.i j))] [(1, .box (t.enc.map .c))]) (fun j => r.length - j) 0 (by simp) (by apply le_of <;> simp [AV.refs1, AV.ref0, Obj.refs1, sumF_zero]) ?_
      rintro j hj
      rcases Nat.lt_or_ge j r.length with hlt2 | hge2
      · obtain ⟨b, hb⟩ : ∃ b, r[j]? = some b := ⟨_, List.getElem?_eq_getElem hlt2⟩
        have b1 := widTo_in a3 a2 (show j + 1 ≤ r.length from hlt2)
        have e := sumF_succ (f := Boat.Width) hb
        simp -dsimp -implicitDefEqProofs [hr, lt_t hlt, hb, lt_t hlt2]
        intro hrl
        refine ⟨by unfold inI; omega, inI_succ hlt2 hrl, j + 1, hlt2, by omega, ?_⟩
        apply le_of <;> simp [AV.refs1, AV.ref0, Obj.refs1, e]
      · simp -dsimp -implicitDefEqProofs [hr, lt_t hlt, lt_f hge2]
        have e : maxRTo t.Rows (k + 1) = if maxRTo t.Rows k < (r.map Boat.Width).sum then (r.map Boat.Width).sum else maxRTo t.Rows k := maxRTo_succ hr
        rw [sumF_all hge2]
        refine fun _ => ⟨inI_succ hlt hlen, k + 1, ⟨hlt, fun _ => h1⟩, by omega, ?_⟩
        apply le_of <;> simp [AV.refs1, AV.ref0, Obj.refs1, e]
    · have := fin h1
      subst this
      simp [WidthOf, h1, maxRTo_zero]
  · simp -dsimp -implicitDefEqProofs [lt_f hge]
    intro _
    by_cases h1 : TrainOk t = true
    · simp [WidthOf, h1, maxRTo_all hge]
    · have := fin (by simpa using h1)
      subst this
      simp [WidthOf, h1, maxRTo_zero]
def ClassOf (t : Train) : Int := if TrainOk t then minOf Boat.Class t.boats (firstOf Boat.Class t.boats) else -1
theorem ClassOf_in {t : Train} (h : TrainOk t = true) : 0 ≤ ClassOf t ∧ ClassOf t ≤ 2 := by
  unfold ClassOf
  rw [if_pos h]
  have hf := trainFacts h
  obtain ⟨r, b0, e1, e2, e3⟩ := first_row hf
  have := boatFacts (hf.ok b0 (List.mem_of_getElem? e3))
  exact minOf_in (fun x hx => by have := boatFacts (hf.ok x hx); omega) (by rw [get0 e3]; omega) (by rw [get0 e3]; omega)
theorem ClassOf_impl (t : Train) (h : t.small) : PureF Try.prog n_impl_ClassOf [.agg (t.enc.map .c)] (.c (.i (ClassOf t))) := by
  refine pure_of h_impl_ClassOf (by simp) fun hwf => ?_
  simp -dsimp -implicitDefEqProofs [c_impl_ClassOf]
  refine call_lend (TrainOk_impl t h) (by simp) rfl ?_
  simp -dsimp -implicitDefEqProofs
  refine ⟨fun h1 => by simp [ClassOf, h1], fun h1 => ?_⟩
  obtain ⟨r, b0, e1, e2, e3⟩ := first_row (trainFacts h1)
  have l1 : 0 < t.Rows.length := (List.getElem?_eq_some_iff.1 e1).1
  have l2 : 0 < r.length := (List.getElem?_eq_some_iff.1 e2).1
  have f1 := (List.getElem?_eq_some_iff.1 e1).2
  have f2 := (List.getElem?_eq_some_iff.1 e2).2
  simp -dsimp -implicitDefEqProofs [e1, e2, l1, l2, f1, f2]
  refine call_pure (boatsOf_c t h) (by simp) rfl ?_
  simp -dsimp -implicitDefEqProofs
  intro hlen
  refine loop_rule (ι := Nat) (fun k => k ≤ t.boats.length) (fun k => stOf [(3, .c (.i (minTo Boat.Class t.boats b0.Class k))), (17, .c (.sl 6 (t.boats.map Boat.enc))), (18, .c (.i t.boats.length)), (19, .c (.i k))] []) (fun k => t.boats.length - k) 0 (by simp) (by apply le_of <;> simp [AV.refs1, AV.ref0, Obj.refs1, minTo_zero]) ?_
  rintro k hk
  rcases Nat.lt_or_ge k t.boats.length with hlt | hge
  · obtain ⟨b, hb⟩ : ∃ b, t.boats[k]? = some b := ⟨_, List.getElem?_eq_getElem hlt⟩
    simp -dsimp -implicitDefEqProofs [hb, lt_t hlt]
    refine ⟨inI_succ hlt hlen, k + 1, hlt, by omega, ?_⟩
    apply le_of <;> simp [AV.refs1, AV.ref0, Obj.refs1, minTo_succ hb]
  · simp -dsimp -implicitDefEqProofs [lt_f hge]
    simp [ClassOf, h1, minTo_all hge, get0 e3]
theorem ClassOf_spec (t : Train) (h : t.small) : PureF Try.prog n_spec_ClassOf [.agg (t.enc.map .c)] (.c (.i (ClassOf t))) := by
  refine pure_of h_spec_ClassOf (by simp) fun hwf => ?_
  simp -dsimp -implicitDefEqProofs [c_spec_ClassOf]
  refine call_pure (l04Boats_c t h) (by simp) rfl ?_
  simp -dsimp -implicitDefEqProofs
  refine call_lend (TrainOk_spec t h) (by simp) rfl ?_
  simp -dsimp -implicitDefEqProofs
  refine ⟨fun h1 => by simp [ClassOf, h1], fun h1 => ?_⟩
  obtain ⟨r, b0, e1, e2, e3⟩ := first_row (trainFacts h1)
  have l1 : 0 < t.boats.length := (List.getElem?_eq_some_iff.1 e3).1
  have f3 := (List.getElem?_eq_some_iff.1 e3).2
  simp -dsimp -implicitDefEqProofs [e3, l1, f3]
  refine loop_rule (ι := Nat) (fun k => k ≤ t.boats.length) (fun k => stOf [(3, .c (.sl 6 (t.boats.map Boat.enc))), (4, .c (.i (minTo Boat.Class t.boats b0.Class k))), (5, .c (.i k))] []) (fun k => t.boats.length - k) 0 (by simp) (by apply le_of <;> simp [AV.refs1, AV.ref0, Obj.refs1, minTo_zero]) ?_
  rintro k hk
  rcases Nat.lt_or_ge k t.boats.length with hlt | hge
  · obtain ⟨b, hb⟩ : ∃ b, t.boats[k]? = some b := ⟨_, List.getElem?_eq_getElem hlt⟩
    simp -dsimp -implicitDefEqProofs [hb, lt_t hlt]
    intro hlen
    refine ⟨inI_succ hlt hlen, k + 1, hlt, by omega, ?_⟩
    apply le_of <;> simp [AV.refs1, AV.ref0, Obj.refs1, minTo_succ hb]
  · simp -dsimp -implicitDefEqProofs [lt_f hge]
    intro _
    simp [ClassOf, h1, minTo_all hge, get0 e3]

end Go.Proofs.Ytfmgadchjiplmaa
