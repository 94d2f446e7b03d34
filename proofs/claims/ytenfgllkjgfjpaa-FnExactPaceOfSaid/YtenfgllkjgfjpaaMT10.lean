/- Contracts of functions of this seat: what each answers, as plain Lean. -/
import Derived.Test.YtenfgllkjgfjpaaMT9
set_option linter.all false
namespace Go.Proofs.Ytenfgllkjgfjpaa
open Go.RowKit

/-- The greatest, the least of what the boats have. -/
def maxOf (f : Boat → Int) (l : List Boat) (z : Int) : Int := l.foldl (fun m b => if m < f b then f b else m) z
def minOf (f : Boat → Int) (l : List Boat) (z : Int) : Int := l.foldl (fun m b => if f b < m then f b else m) z
def maxTo (f : Boat → Int) (l : List Boat) (z : Int) (k : Nat) : Int := maxOf f (l.take k) z
def minTo (f : Boat → Int) (l : List Boat) (z : Int) (k : Nat) : Int := minOf f (l.take k) z
theorem maxTo_zero {f : Boat → Int} {l : List Boat} {z : Int} : maxTo f l z 0 = z := rfl
theorem minTo_zero {f : Boat → Int} {l : List Boat} {z : Int} : minTo f l z 0 = z := rfl
theorem maxTo_succ {f : Boat → Int} {l : List Boat} {z : Int} {k : Nat} {b : Boat} (h : l[k]? = some b) : maxTo f l z (k + 1) = if maxTo f l z k < f b then f b else maxTo f l z k := by
  unfold maxTo maxOf; rw [List.take_succ, h, List.foldl_append]; rfl
theorem minTo_succ {f : Boat → Int} {l : List Boat} {z : Int} {k : Nat} {b : Boat} (h : l[k]? = some b) : minTo f l z (k + 1) = if f b < minTo f l z k then f b else minTo f l z k := by
  unfold minTo minOf; rw [List.take_succ, h, List.foldl_append]; rfl
theorem maxTo_all {f : Boat → Int} {l : List Boat} {z : Int} {k : Nat} (h : l.length ≤ k) : maxTo f l z k = maxOf f l z := by
  unfold maxTo; rw [List.take_of_length_le h]
theorem minTo_all {f : Boat → Int} {l : List Boat} {z : Int} {k : Nat} (h : l.length ≤ k) : minTo f l z k = minOf f l z := by
  unfold minTo; rw [List.take_of_length_le h]
theorem maxOf_in {f : Boat → Int} {a b : Int} : ∀ {l : List Boat} {z : Int}, (∀ x ∈ l, a ≤ f x ∧ f x ≤ b) → a ≤ z → z ≤ b → a ≤ maxOf f l z ∧ maxOf f l z ≤ b
  | [], z, _, h1, h2 => ⟨h1, h2⟩
  | x :: l, z, h, h1, h2 => by
    have := h x (by simp)
    unfold maxOf
    rw [List.foldl_cons]
    refine maxOf_in (l := l) (fun y hy => h y (by simp [hy])) ?_ ?_ <;> split <;> omega
theorem minOf_in {f : Boat → Int} {a b : Int} : ∀ {l : List Boat} {z : Int}, (∀ x ∈ l, a ≤ f x ∧ f x ≤ b) → a ≤ z → z ≤ b → a ≤ minOf f l z ∧ minOf f l z ≤ b
  | [], z, _, h1, h2 => ⟨h1, h2⟩
  | x :: l, z, h, h1, h2 => by
    have := h x (by simp)
    unfold minOf
    rw [List.foldl_cons]
    refine minOf_in (l := l) (fun y hy => h y (by simp [hy])) ?_ ?_ <;> split <;> omega

structure TrainFacts (t : Train) : Prop where
  rows : ∀ r ∈ t.Rows, full r = true
  ok : ∀ b ∈ t.boats, BoatOk b = true
  nd : (t.boats.map idOf).Nodup
  pos : 1 ≤ t.boats.length
  len : t.boats.length ≤ 6
theorem trainFacts {t : Train} (h : TrainOk t = true) : TrainFacts t := by
  simp only [TrainOk, Bool.and_eq_true, List.all_eq_true, decide_eq_true_eq] at h
  obtain ⟨⟨⟨h1, h2⟩, h3⟩, h4⟩ := h
  have h5 := inRange_iff.1 h4
  exact ⟨h1, h2, h3, by omega, by omega⟩
theorem boatFacts {b : Boat} (h : BoatOk b = true) : (1 ≤ b.Id ∧ b.Id ≤ 9999) ∧ (1 ≤ b.Length ∧ b.Length ≤ 200) ∧ (1 ≤ b.Width ∧ b.Width ≤ 30) ∧ (1 ≤ b.Draught ∧ b.Draught ≤ 100) ∧ (1 ≤ b.Speed ∧ b.Speed ≤ 50) ∧ (0 ≤ b.Class ∧ b.Class ≤ 2) := by
  simp only [BoatOk, Bool.and_eq_true] at h
  obtain ⟨⟨⟨⟨⟨h1, h2⟩, h3⟩, h4⟩, h5⟩, h6⟩ := h
  exact ⟨inRange_iff.1 h1, inRange_iff.1 h2, inRange_iff.1 h3, inRange_iff.1 h4, inRange_iff.1 h5, inRange_iff.1 h6⟩

theorem boatsOf_c (t : Train) (h : t.small) : PureF Try.prog n_impl_boatsOf [.agg (t.enc.map .c)] (.c (.sl 6 (t.boats.map Boat.enc))) := by
  refine pure_of h_impl_boatsOf (by simp) fun hwf => ?_
  simp -dsimp -implicitDefEqProofs [c_impl_boatsOf]
  intro hlen
  refine virt_rule (k0 := 6) 3 6 (by simp) (by simp) (by decide) ?_
  refine loop_rule (ι := Nat) (fun k => k ≤ t.Rows.length) (fun k => stOf [(3, .own 3 6 (heads t.Rows k).length), (7, .c (.sl 1 (t.Rows.map enc_BoatS))), (8, .c (.i t.Rows.length)), (9, .c (.i k))] [(3, .row 6 ((heads t.Rows k).map Boat.enc))]) (fun k => t.Rows.length - k) 0 (by simp) (by apply le_of <;> simp [AV.refs1, AV.ref0, Obj.refs1, heads_zero]) ?_
  rintro k hk
  rcases Nat.lt_or_ge k t.Rows.length with hlt | hge
  · obtain ⟨r, hr⟩ : ∃ r, t.Rows[k]? = some r := ⟨_, List.getElem?_eq_getElem hlt⟩
    have hb := heads_bound h (k + 1)
    have hf := heads_succ hr
    rw [hf, List.length_append] at hb
    simp -dsimp -implicitDefEqProofs [hr, lt_t hlt]
    refine ⟨by omega, inI_succ hlt hlen, k + 1, hlt, by omega, ?_⟩
    apply le_of <;> simp [AV.refs1, AV.ref0, Obj.refs1, hf]
  · simp -dsimp -implicitDefEqProofs [lt_f hge]
    rw [heads_all hge]
    rw [List.take_of_length_le (by rw [List.length_map]; exact Nat.le_refl _)]; rfl

def DraughtOf (t : Train) : Int := if TrainOk t then maxOf Boat.Draught t.boats 0 else 0
theorem DraughtOf_impl (t : Train) (h : t.small) : PureF Try.prog n_impl_DraughtOf [.agg (t.enc.map .c)] (.c (.i (DraughtOf t))) := by
  refine pure_of h_impl_DraughtOf (by simp) fun hwf => ?_
  simp -dsimp -implicitDefEqProofs [c_impl_DraughtOf]
  refine call_lend (TrainOk_impl t h) (by simp) rfl ?_
  simp -dsimp -implicitDefEqProofs
  refine ⟨fun h1 => by simp [DraughtOf, h1], fun h1 => ?_⟩
  refine call_pure (boatsOf_c t h) (by simp) rfl ?_
  simp -dsimp -implicitDefEqProofs
  intro hlen
  refine loop_rule (ι := Nat) (fun k => k ≤ t.boats.length) (fun k => stOf [(3, .c (.i (maxTo Boat.Draught t.boats 0 k))), (10, .c (.sl 6 (t.boats.map Boat.enc))), (11, .c (.i t.boats.length)), (12, .c (.i k))] []) (fun k => t.boats.length - k) 0 (by simp) (by apply le_of <;> simp [AV.refs1, AV.ref0, Obj.refs1, maxTo_zero]) ?_
  rintro k hk
  rcases Nat.lt_or_ge k t.boats.length with hlt | hge
  · obtain ⟨b, hb⟩ : ∃ b, t.boats[k]? = some b := ⟨_, List.getElem?_eq_getElem hlt⟩
    simp -dsimp -implicitDefEqProofs [hb, lt_t hlt]
    refine ⟨inI_succ hlt hlen, k + 1, hlt, by omega, ?_⟩
    apply le_of <;> simp [AV.refs1, AV.ref0, Obj.refs1, maxTo_succ hb]
  · simp -dsimp -implicitDefEqProofs [lt_f hge]
    simp [DraughtOf, h1, maxTo_all hge]
theorem DraughtOf_spec (t : Train) (h : t.small) : PureF Try.prog n_spec_DraughtOf [.agg (t.enc.map .c)] (.c (.i (DraughtOf t))) := by
  refine pure_of h_spec_DraughtOf (by simp) fun hwf => ?_
  simp -dsimp -implicitDefEqProofs [c_spec_DraughtOf]
  refine call_pure (l04Boats_c t h) (by simp) rfl ?_
  simp -dsimp -implicitDefEqProofs
  refine loop_rule (ι := Nat) (fun k => k ≤ t.boats.length ∧ (k ≠ 0 → TrainOk t = true)) (fun k => stOf [(1, .box 1 0), (3, .c (.i (maxTo Boat.Draught t.boats 0 k))), (4, .c (.sl 6 (t.boats.map Boat.enc))), (5, .c (.i k))] [(1, .box (t.enc.map .c))]) (fun k => t.boats.length - k) 0 (by simp) (by apply le_of <;> simp [AV.refs1, AV.ref0, Obj.refs1, maxTo_zero]) ?_
  rintro k ⟨hk, hok⟩
  rcases Nat.lt_or_ge k t.boats.length with hlt | hge
  · obtain ⟨b, hb⟩ : ∃ b, t.boats[k]? = some b := ⟨_, List.getElem?_eq_getElem hlt⟩
    simp -dsimp -implicitDefEqProofs [hb, lt_t hlt]
    intro hlen
    refine call_lend (TrainOk_spec t h) (by simp) rfl ?_
    simp -dsimp -implicitDefEqProofs [hb, lt_t hlt]
    refine ⟨fun h1 => ?_, fun h1 => ?_⟩
    · refine ⟨inI_succ hlt hlen, k + 1, ⟨hlt, fun _ => h1⟩, by omega, ?_⟩
      apply le_of <;> simp [AV.refs1, AV.ref0, Obj.refs1, maxTo_succ hb]
    · have : k = 0 := by
        rcases Nat.eq_zero_or_pos k with e | e
        · exact e
        · rw [hok (by omega)] at h1; cases h1
      subst this
      simp [DraughtOf, h1, maxTo_zero]
  · simp -dsimp -implicitDefEqProofs [lt_f hge]
    intro _
    by_cases h1 : TrainOk t = true
    · simp [DraughtOf, h1, maxTo_all hge]
    · have h2 : k = 0 := by
        rcases Nat.eq_zero_or_pos k with e | e
        · exact e
        · exact absurd (hok (by omega)) h1
      subst h2
      simp [DraughtOf, h1, maxTo_zero]
def firstOf (f : Boat → Int) (l : List Boat) : Int := match l with | b :: _ => f b | [] => 0
def SpeedOf (t : Train) : Int := if TrainOk t then minOf Boat.Speed t.boats (firstOf Boat.Speed t.boats) else 0
theorem get0 {l : List Boat} {b : Boat} (h : l[0]? = some b) (f : Boat → Int) : firstOf f l = f b := by
  cases l with
  | nil => simp at h
  | cons x l => simp at h; rw [h]; rfl
theorem first_row {t : Train} (h : TrainFacts t) : ∃ r b, t.Rows[0]? = some r ∧ r[0]? = some b ∧ t.boats[0]? = some b := by
  have h1 := h.pos
  cases hr : t.Rows with
  | nil => unfold Train.boats at h1; rw [hr] at h1; simp at h1
  | cons r l =>
    have h2 := full_iff.1 (h.rows r (by rw [hr]; simp))
    cases r with
    | nil => simp at h2
    | cons b r => exact ⟨b :: r, b, rfl, rfl, by unfold Train.boats; rw [hr]; rfl⟩
theorem SpeedOf_impl (t : Train) (h : t.small) : PureF Try.prog n_impl_SpeedOf [.agg (t.enc.map .c)] (.c (.i (SpeedOf t))) := by
  refine pure_of h_impl_SpeedOf (by simp) fun hwf => ?_
  simp -dsimp -implicitDefEqProofs [c_impl_SpeedOf]
  refine call_lend (TrainOk_impl t h) (by simp) rfl ?_
  simp -dsimp -implicitDefEqProofs
  refine ⟨fun h1 => by simp [SpeedOf, h1], fun h1 => ?_⟩
  obtain ⟨r, b0, e1, e2, e3⟩ := first_row (trainFacts h1)
  have l1 : 0 < t.Rows.length := (List.getElem?_eq_some_iff.1 e1).1
  have l2 : 0 < r.length := (List.getElem?_eq_some_iff.1 e2).1
  have f1 := (List.getElem?_eq_some_iff.1 e1).2
  have f2 := (List.getElem?_eq_some_iff.1 e2).2
  simp -dsimp -implicitDefEqProofs [e1, e2, l1, l2, f1, f2]
  refine call_pure (boatsOf_c t h) (by simp) rfl ?_
  simp -dsimp -implicitDefEqProofs
  intro hlen
  refine loop_rule (ι := Nat) (fun k => k ≤ t.boats.length) (fun k => stOf [(3, .c (.i (minTo Boat.Speed t.boats b0.Speed k))), (17, .c (.sl 6 (t.boats.map Boat.enc))), (18, .c (.i t.boats.length)), (19, .c (.i k))] []) (fun k => t.boats.length - k) 0 (by simp) (by apply le_of <;> simp [AV.refs1, AV.ref0, Obj.refs1, minTo_zero]) ?_
  rintro k hk
  rcases Nat.lt_or_ge k t.boats.length with hlt | hge
  · obtain ⟨b, hb⟩ : ∃ b, t.boats[k]? = some b := ⟨_, List.getElem?_eq_getElem hlt⟩
    simp -dsimp -implicitDefEqProofs [hb, lt_t hlt]
    refine ⟨inI_succ hlt hlen, k + 1, hlt, by omega, ?_⟩
    apply le_of <;> simp [AV.refs1, AV.ref0, Obj.refs1, minTo_succ hb]
  · simp -dsimp -implicitDefEqProofs [lt_f hge]
    simp [SpeedOf, h1, minTo_all hge, get0 e3]
theorem SpeedOf_spec (t : Train) (h : t.small) : PureF Try.prog n_spec_SpeedOf [.agg (t.enc.map .c)] (.c (.i (SpeedOf t))) := by
  refine pure_of h_spec_SpeedOf (by simp) fun hwf => ?_
  simp -dsimp -implicitDefEqProofs [c_spec_SpeedOf]
  refine call_pure (l04Boats_c t h) (by simp) rfl ?_
  simp -dsimp -implicitDefEqProofs
  refine call_lend (TrainOk_spec t h) (by simp) rfl ?_
  simp -dsimp -implicitDefEqProofs
  refine ⟨fun h1 => by simp [SpeedOf, h1], fun h1 => ?_⟩
  obtain ⟨r, b0, e1, e2, e3⟩ := first_row (trainFacts h1)
  have l1 : 0 < t.boats.length := (List.getElem?_eq_some_iff.1 e3).1
  have f3 := (List.getElem?_eq_some_iff.1 e3).2
  simp -dsimp -implicitDefEqProofs [e3, l1, f3]
  refine loop_rule (ι := Nat) (fun k => k ≤ t.boats.length) (fun k => stOf [(3, .c (.sl 6 (t.boats.map Boat.enc))), (4, .c (.i (minTo Boat.Speed t.boats b0.Speed k))), (5, .c (.i k))] []) (fun k => t.boats.length - k) 0 (by simp) (by apply le_of <;> simp [AV.refs1, AV.ref0, Obj.refs1, minTo_zero]) ?_
  rintro k hk
  rcases Nat.lt_or_ge k t.boats.length with hlt | hge
  · obtain ⟨b, hb⟩ : ∃ b, t.boats[k]? = some b := ⟨_, List.getElem?_eq_getElem hlt⟩
    simp -dsimp -implicitDefEqProofs [hb, lt_t hlt]
    intro hlen
    refine ⟨inI_succ hlt hlen, k + 1, hlt, by omega, ?_⟩
    apply le_of <;> simp [AV.refs1, AV.ref0, Obj.refs1, minTo_succ hb]
  · simp -dsimp -implicitDefEqProofs [lt_f hge]
    intro _
    simp [SpeedOf, h1, minTo_all hge, get0 e3]
theorem DraughtOf_in (t : Train) : 0 ≤ DraughtOf t ∧ DraughtOf t ≤ 100 := by
  unfold DraughtOf
  split
  · rename_i h
    have hf := trainFacts h
    exact maxOf_in (fun x hx => by have := boatFacts (hf.ok x hx); omega) (by omega) (by omega)
  · omega
theorem SpeedOf_in (t : Train) : 0 ≤ SpeedOf t ∧ SpeedOf t ≤ 50 := by
  unfold SpeedOf
  split
  · rename_i h
    have hf := trainFacts h
    obtain ⟨r, b0, e1, e2, e3⟩ := first_row hf
    have := boatFacts (hf.ok b0 (List.mem_of_getElem? e3))
    exact minOf_in (fun x hx => by have := boatFacts (hf.ok x hx); omega) (by rw [get0 e3]; omega) (by rw [get0 e3]; omega)
  · omega
def PaceOf (t : Train) (depth : Int) : Int := if TrainOk t && inRange depth 0 1000000000 && decide (DraughtOf t ≤ depth) then if 2 * depth < 3 * DraughtOf t then (SpeedOf t + 1).tdiv 2 else SpeedOf t else 0

end Go.Proofs.Ytenfgllkjgfjpaa
