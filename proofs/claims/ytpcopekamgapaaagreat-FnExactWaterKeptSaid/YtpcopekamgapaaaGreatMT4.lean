/- Contracts of functions of this seat: what each answers, as plain Lean. -/
import Derived.Test.YtpcopekamgapaaaGreatMT3
set_option linter.all false
namespace Go.Proofs.YtpcopekamgapaaaGreat
open Go.RowKit

theorem rows_le {t : Train} (h : TrainFacts t) : t.Rows.length ≤ 6 := by
  have : ∀ l : List (List Boat), (∀ r ∈ l, full r = true) → l.length ≤ l.flatten.length := by
    intro l
    induction l with
    | nil => simp
    | cons r l ih =>
      intro hl
      have e1 := ih fun x hx => hl x (by simp [hx])
      have e2 := full_iff.1 (hl r (by simp))
      simp only [List.length_cons, List.flatten_cons, List.length_append]; omega
  have h1 := this t.Rows h.rows
  have h2 := h.len
  unfold Train.boats at h2
  omega
theorem row_facts {t : Train} (h : TrainFacts t) {k : Nat} {r : List Boat} (hr : t.Rows[k]? = some r) : 1 ≤ r.length ∧ r.length ≤ 6 ∧ ∀ b ∈ r, BoatOk b = true := by
  have h1 := full_iff.1 (h.rows r (List.mem_of_getElem? hr))
  obtain ⟨m, e⟩ := boats_split hr
  have h2 := h.len
  rw [e] at h2
  simp only [List.length_append] at h2
  exact ⟨by omega, by omega, fun b hb => h.ok b (by rw [e]; simp [hb])⟩
/-- Sums over the first k. -/
def sumF {α : Type} (f : α → Int) (l : List α) (k : Nat) : Int := ((l.take k).map f).sum
theorem sumF_zero {α : Type} {f : α → Int} {l : List α} : sumF f l 0 = 0 := rfl
theorem sumF_succ {α : Type} {f : α → Int} {l : List α} {k : Nat} {x : α} (h : l[k]? = some x) : sumF f l (k + 1) = sumF f l k + f x := by
  unfold sumF; rw [List.take_succ, h, List.map_append, List.sum_append]; simp
theorem sumF_all {α : Type} {f : α → Int} {l : List α} {k : Nat} (h : l.length ≤ k) : sumF f l k = (l.map f).sum := by
  unfold sumF; rw [List.take_of_length_le h]
theorem sumF_in {α : Type} {f : α → Int} {l : List α} {c : Int} (hc : 0 ≤ c) (h : ∀ x ∈ l, 0 ≤ f x ∧ f x ≤ c) : ∀ k : Nat, 0 ≤ sumF f l k ∧ sumF f l k ≤ c * k
  | 0 => by simp [sumF_zero]
  | k + 1 => by
    have ih := sumF_in hc h k
    have e : c * ((k + 1 : Nat) : Int) = c * k + c := by rw [Int.natCast_add, Int.mul_add]; simp
    cases hk : l[k]? with
    | none =>
      have : l.length ≤ k := by simpa using hk
      have e2 : sumF f l (k + 1) = sumF f l k := by unfold sumF; rw [List.take_of_length_le (by omega), List.take_of_length_le this]
      rw [e2, e]; omega
    | some x =>
      have := h x (List.mem_of_getElem? hk)
      rw [sumF_succ hk, e]; omega
def rowLen (r : List Boat) : Int := maxOf Boat.Length r 0
def LengthOf (t : Train) : Int := if TrainOk t then (t.Rows.map rowLen).sum else 0
theorem rowLen_in {r : List Boat} (h : ∀ b ∈ r, BoatOk b = true) : 0 ≤ rowLen r ∧ rowLen r ≤ 200 :=
  maxOf_in (fun x hx => by have := boatFacts (h x hx); omega) (by omega) (by omega)
theorem lenTo_in {t : Train} (h : TrainFacts t) {k : Nat} (hk : k ≤ t.Rows.length) : 0 ≤ sumF rowLen t.Rows k ∧ sumF rowLen t.Rows k ≤ 1200 := by
  have h1 := sumF_in (f := rowLen) (l := t.Rows) (c := 200) (by omega) (fun r hr => by
    obtain ⟨i, hi⟩ := List.getElem?_of_mem hr
    exact rowLen_in (row_facts h hi).2.2) k
  have := rows_le h
  omega
theorem LengthOf_in (t : Train) : 0 ≤ LengthOf t ∧ LengthOf t ≤ 1200 := by
  unfold LengthOf
  split
  · rename_i h
    have := lenTo_in (trainFacts h) (Nat.le_refl _)
    rw [sumF_all (Nat.le_refl _)] at this; exact this
  · omega
/-- The width. -/
def rowWid (r : List Boat) : Int := (r.map Boat.Width).sum
def maxR (l : List (List Boat)) : Int := l.foldl (fun m r => if m < rowWid r then rowWid r else m) 0
def maxRTo (l : List (List Boat)) (k : Nat) : Int := maxR (l.take k)
theorem maxRTo_zero {l : List (List Boat)} : maxRTo l 0 = 0 := rfl
theorem maxRTo_succ {l : List (List Boat)} {k : Nat} {r : List Boat} (h : l[k]? = some r) : maxRTo l (k + 1) = if maxRTo l k < rowWid r then rowWid r else maxRTo l k := by
  unfold maxRTo maxR; rw [List.take_succ, h, List.foldl_append]; rfl
theorem maxRTo_all {l : List (List Boat)} {k : Nat} (h : l.length ≤ k) : maxRTo l k = maxR l := by
  unfold maxRTo; rw [List.take_of_length_le h]
def WidthOf (t : Train) : Int := if TrainOk t then maxR t.Rows else 0
theorem widTo_in {r : List Boat} (h : ∀ b ∈ r, BoatOk b = true) (h6 : r.length ≤ 6) {k : Nat} (hk : k ≤ r.length) : 0 ≤ sumF Boat.Width r k ∧ sumF Boat.Width r k ≤ 180 := by
  have := sumF_in (f := Boat.Width) (l := r) (c := 30) (by omega) (fun b hb => by have := boatFacts (h b hb); omega) k
  omega
theorem maxR_in {l : List (List Boat)} (h : ∀ r ∈ l, 0 ≤ rowWid r ∧ rowWid r ≤ 180) : 0 ≤ maxR l ∧ maxR l ≤ 180 := by
  unfold maxR
  have : ∀ (l : List (List Boat)) (z : Int), (∀ r ∈ l, 0 ≤ rowWid r ∧ rowWid r ≤ 180) → 0 ≤ z → z ≤ 180 → 0 ≤ l.foldl (fun m r => if m < rowWid r then rowWid r else m) z ∧ l.foldl (fun m r => if m < rowWid r then rowWid r else m) z ≤ 180 := by
    intro l
    induction l with
    | nil => intro z _ h1 h2; exact ⟨h1, h2⟩
    | cons r l ih =>
      intro z h h1 h2
      have := h r (by simp)
      rw [List.foldl_cons]
      refine ih _ (fun y hy => h y (by simp [hy])) ?_ ?_ <;> split <;> omega
  exact this l 0 h (by omega) (by omega)
theorem WidthOf_in (t : Train) : 0 ≤ WidthOf t ∧ WidthOf t ≤ 180 := by
  unfold WidthOf
  split
  · rename_i h
    refine maxR_in fun r hr => ?_
    obtain ⟨i, hi⟩ := List.getElem?_of_mem hr
    obtain ⟨a1, a2, a3⟩ := row_facts (trainFacts h) hi
    have := widTo_in a3 a2 (Nat.le_refl _)
    rw [sumF_all (Nat.le_refl _)] at this; exact this
  · omega
def ClassOf (t : Train) : Int := if TrainOk t then minOf Boat.Class t.boats (firstOf Boat.Class t.boats) else -1
theorem ClassOf_in {t : Train} (h : TrainOk t = true) : 0 ≤ ClassOf t ∧ ClassOf t ≤ 2 := by
  unfold ClassOf
  rw [if_pos h]
  have hf := trainFacts h
  obtain ⟨r, b0, e1, e2, e3⟩ := first_row hf
  have := boatFacts (hf.ok b0 (List.mem_of_getElem? e3))
  exact minOf_in (fun x hx => by have := boatFacts (hf.ok x hx); omega) (by rw [get0 e3]; omega) (by rw [get0 e3]; omega)
end Go.Proofs.YtpcopekamgapaaaGreat
