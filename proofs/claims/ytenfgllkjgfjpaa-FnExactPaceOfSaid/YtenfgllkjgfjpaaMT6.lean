/- Contracts of functions of this seat: what each answers, as plain Lean. -/
import Derived.Test.YtenfgllkjgfjpaaMTy1
set_option linter.all false
namespace Go.Proofs.Ytenfgllkjgfjpaa
open Go.RowKit

theorem flat_len {α : Type} {B : Nat} : ∀ {l : List (List α)}, (∀ r ∈ l, r.length ≤ B) → l.flatten.length ≤ l.length * B
  | [], _ => by simp
  | r :: l, h => by
    have h1 := flat_len (l := l) fun x hx => h x (by simp [hx])
    have h2 := h r (by simp)
    simp only [List.flatten_cons, List.length_append, List.length_cons, Nat.add_mul, Nat.one_mul]
    omega
/-- The elements of the first k. -/
def heads {α : Type} (l : List (List α)) (k : Nat) : List α := (l.take k).flatten
theorem heads_zero {α : Type} {l : List (List α)} : heads l 0 = [] := rfl
theorem heads_succ {α : Type} {l : List (List α)} {k : Nat} {r : List α} (h : l[k]? = some r) : heads l (k + 1) = heads l k ++ r := by
  unfold heads; rw [List.take_succ, h]; simp
theorem heads_all {α : Type} {l : List (List α)} {k : Nat} (h : l.length ≤ k) : heads l k = l.flatten := by
  unfold heads; rw [List.take_of_length_le h]
theorem heads_bound {α : Type} {l : List (List α)} (h : smallS (smallS fun _ : α => True) l) (k : Nat) : (heads l k).length ≤ 1099511627776 := by
  have h1 := flat_len (l := l.take k) (B := 1048576) fun r hr => (h.2 r (List.mem_of_mem_take hr)).1
  have h2 := h.1
  have h3 : (l.take k).length ≤ 1048576 := by simp; omega
  have h4 := Nat.mul_le_mul_right 1048576 h3
  unfold heads
  omega

def Train.boats (t : Train) : List Boat := t.Rows.flatten
theorem boats_le {t : Train} (h : t.small) : t.boats.length ≤ 1099511627776 := by
  have := heads_bound h t.Rows.length
  rwa [heads_all (Nat.le_refl _)] at this

theorem l04Boats_c (t : Train) (h : t.small) : PureF Try.prog n_spec_l04Boats [.agg (t.enc.map .c)] (.c (.sl 6 (t.boats.map Boat.enc))) := by
  refine pure_of h_spec_l04Boats (by simp) fun hwf => ?_
  simp -dsimp -implicitDefEqProofs [c_spec_l04Boats]
  refine loop_rule (ι := Nat) (fun k => k ≤ t.Rows.length) (fun k => stOf [(1, .box 1 0), (3, .own 5 6 (heads t.Rows k).length), (4, .c (.i k))] [(1, .box (t.enc.map .c)), (5, .row 6 ((heads t.Rows k).map Boat.enc))]) (fun k => t.Rows.length - k) 0 (by simp) (by apply le_of <;> simp [AV.refs1, AV.ref0, Obj.refs1, heads_zero]) ?_
  rintro k hk
  rcases Nat.lt_or_ge k t.Rows.length with hlt | hge
  · obtain ⟨r, hr⟩ : ∃ r, t.Rows[k]? = some r := ⟨_, List.getElem?_eq_getElem hlt⟩
    have hb := heads_bound h (k + 1)
    have hf := heads_succ hr
    rw [hf, List.length_append] at hb
    have hm := h.1
    simp -dsimp -implicitDefEqProofs [hr, lt_t hlt]
    intro hlen
    refine ⟨by omega, inI_succ hlt hlen, k + 1, hlt, by omega, ?_⟩
    apply le_of <;> simp [AV.refs1, AV.ref0, Obj.refs1, hf]
  · simp -dsimp -implicitDefEqProofs [lt_f hge]
    rw [heads_all hge]
    intro _
    rw [List.take_of_length_le (by rw [List.length_map]; exact Nat.le_refl _)]; rfl

def BoatOk (b : Boat) : Bool := inRange b.Id 1 9999 && inRange b.Length 1 200 && inRange b.Width 1 30 && inRange b.Draught 1 100 && inRange b.Speed 1 50 && inRange b.Class 0 2
theorem BoatOk_spec (b : Boat) : PureF Try.prog n_spec_BoatOk [.agg (b.enc.map .c)] (.c (.b (BoatOk b))) := by
  refine pure_of h_spec_BoatOk (by simp) fun hwf => ?_
  simp -dsimp -implicitDefEqProofs [c_spec_BoatOk]
  refine call_lend (inRange_spec b.Id 1 9999) (by simp) rfl ?_
  simp -dsimp -implicitDefEqProofs
  refine ⟨fun h => ?_, fun h => by simp [BoatOk, h]⟩
  refine call_lend (inRange_spec b.Length 1 200) (by simp) rfl ?_
  simp -dsimp -implicitDefEqProofs
  refine ⟨fun h1 => ?_, fun h1 => by simp [BoatOk, h1]⟩
  refine call_lend (inRange_spec b.Width 1 30) (by simp) rfl ?_
  simp -dsimp -implicitDefEqProofs
  refine ⟨fun h2 => ?_, fun h1 => by simp [BoatOk, h1]⟩
  refine call_lend (inRange_spec b.Draught 1 100) (by simp) rfl ?_
  simp -dsimp -implicitDefEqProofs
  refine ⟨fun h3 => ?_, fun h1 => by simp [BoatOk, h1]⟩
  refine call_lend (inRange_spec b.Speed 1 50) (by simp) rfl ?_
  simp -dsimp -implicitDefEqProofs
  refine ⟨fun h4 => ?_, fun h1 => by simp [BoatOk, h1]⟩
  refine call_lend (inRange_spec b.Class 0 2) (by simp) rfl ?_
  simp -dsimp -implicitDefEqProofs
  simp [BoatOk, h, h1, h2, h3, h4]
theorem BoatOk_impl (b : Boat) : PureF Try.prog n_impl_BoatOk [.agg (b.enc.map .c)] (.c (.b (BoatOk b))) := by
  refine pure_of h_impl_BoatOk (by simp) fun hwf => ?_
  simp -dsimp -implicitDefEqProofs [c_impl_BoatOk]
  refine call_lend (inRange_impl b.Id 1 9999) (by simp) rfl ?_
  simp -dsimp -implicitDefEqProofs
  refine ⟨fun h => ?_, fun h => by simp [BoatOk, h]⟩
  refine call_lend (inRange_impl b.Length 1 200) (by simp) rfl ?_
  simp -dsimp -implicitDefEqProofs
  refine ⟨fun h1 => ?_, fun h1 => by simp [BoatOk, h1]⟩
  refine call_lend (inRange_impl b.Width 1 30) (by simp) rfl ?_
  simp -dsimp -implicitDefEqProofs
  refine ⟨fun h2 => ?_, fun h1 => by simp [BoatOk, h1]⟩
  refine call_lend (inRange_impl b.Draught 1 100) (by simp) rfl ?_
  simp -dsimp -implicitDefEqProofs
  refine ⟨fun h3 => ?_, fun h1 => by simp [BoatOk, h1]⟩
  refine call_lend (inRange_impl b.Speed 1 50) (by simp) rfl ?_
  simp -dsimp -implicitDefEqProofs
  refine ⟨fun h4 => ?_, fun h1 => by simp [BoatOk, h1]⟩
  refine call_lend (inRange_impl b.Class 0 2) (by simp) rfl ?_
  simp -dsimp -implicitDefEqProofs
  simp [BoatOk, h, h1, h2, h3, h4]

/-- Place of n in a list, or -1. -/
def indexOf (l : List Int) (n : Int) : Int := match l.findIdx? (fun x => n == x) with | some i => i | none => -1
theorem indexOf_nonneg {l : List Int} {n : Int} : (0 ≤ indexOf l n) = (n ∈ l) := by
  unfold indexOf
  cases h : l.findIdx? (fun x => n == x) with
  | none =>
    rw [List.findIdx?_eq_none_iff] at h
    show (0 ≤ (-1 : Int)) = _
    simp only [eq_iff_iff]
    refine ⟨fun h1 => by omega, fun hm => ?_⟩
    have := h n hm
    simp at this
  | some i =>
    rw [List.findIdx?_eq_some_iff_getElem] at h
    obtain ⟨hi, h1, _⟩ := h
    simp only [eq_iff_iff]
    refine ⟨fun _ => ?_, fun _ => by omega⟩
    have : n = l[i] := by simpa using h1
    rw [this]; exact List.getElem_mem _
theorem indexOf_at {l : List Int} {n : Int} {k : Nat} (h : l[k]? = some n) (hn : ∀ x ∈ l.take k, n ≠ x) : indexOf l n = k := by
  unfold indexOf
  have : l.findIdx? (fun x => n == x) = some k := by
    rw [List.findIdx?_eq_some_iff_getElem]
    obtain ⟨hk1, hk2⟩ := List.getElem?_eq_some_iff.1 h
    refine ⟨hk1, by simp [hk2], fun j hj => ?_⟩
    have := hn (l[j]'(by omega)) (List.mem_take_iff_getElem.2 ⟨j, by omega, rfl⟩)
    simpa using this
  rw [this]
theorem indexOf_no {l : List Int} {n : Int} {k : Nat} (hk : l.length ≤ k) (hn : ∀ x ∈ l.take k, n ≠ x) : indexOf l n = -1 := by
  rw [List.take_of_length_le hk] at hn
  unfold indexOf
  have : l.findIdx? (fun x => n == x) = none := by
    rw [List.findIdx?_eq_none_iff]
    intro x hx
    simpa using hn x hx
  rw [this]
theorem take_ne {l : List Int} {n x : Int} {k : Nat} (h : l[k]? = some x) (hx : n ≠ x) (hn : ∀ x ∈ l.take k, n ≠ x) : ∀ x ∈ l.take (k + 1), n ≠ x := by
  intro y hy
  rw [List.take_succ, h] at hy
  rcases List.mem_append.1 hy with h1 | h1
  · exact hn y h1
  · simp at h1; rw [h1]; exact hx
theorem Index_c (l : List Int) (n : Int) : PureF Try.prog n_slices_Index___int_int_ [.c (.sl 1 (l.map ienc)), .c (.i n)] (.c (.i (indexOf l n))) := by
  refine pure_of h_slices_Index___int_int_ (by simp) fun hwf => ?_
  simp -dsimp -implicitDefEqProofs [c_slices_Index___int_int_]
  intro hlen
  refine loop_rule (ι := Nat) (fun k => k ≤ l.length ∧ ∀ x ∈ l.take k, n ≠ x) (fun k => stOf [(0, .c (.sl 1 (l.map ienc))), (1, .c (.i n)), (7, .c (.i l.length)), (8, .c (.i k))] []) (fun k => l.length - k) 0 (by simp) (by apply le_of <;> simp [AV.refs1, AV.ref0, Obj.refs1]) ?_
  rintro k ⟨hk, hn⟩
  rcases Nat.lt_or_ge k l.length with hlt | hge
  · obtain ⟨x, hx⟩ : ∃ x, l[k]? = some x := ⟨_, List.getElem?_eq_getElem hlt⟩
    simp -dsimp -implicitDefEqProofs [hx, lt_t hlt]
    refine ⟨fun h => ?_, fun h => ⟨inI_succ hlt hlen, k + 1, ⟨hlt, take_ne hx h hn⟩, by omega, by apply le_of <;> simp [AV.refs1, AV.ref0, Obj.refs1]⟩⟩
    exact indexOf_at (h ▸ hx) hn
  · simp -dsimp -implicitDefEqProofs [lt_f hge]
    exact indexOf_no hge hn
theorem Contains_c (l : List Int) (n : Int) : PureF Try.prog n_slices_Contains___int_int_ [.c (.sl 1 (l.map ienc)), .c (.i n)] (.c (.b (decide (n ∈ l)))) := by
  refine pure_of h_slices_Contains___int_int_ (by simp) fun hwf => ?_
  simp -dsimp -implicitDefEqProofs [c_slices_Contains___int_int_]
  refine call_lend (Index_c l n) (by simp) rfl ?_
  simp -dsimp -implicitDefEqProofs [indexOf_nonneg]

end Go.Proofs.Ytenfgllkjgfjpaa
