/- Contracts of functions of this seat: what each answers, as plain Lean. -/
import Derived.Test.YtpcopekamgapaaaGreatMTy1
set_option linter.all false
namespace Go.Proofs.YtpcopekamgapaaaGreat
open Go.RowKit

theorem flat_len {α : Type} {B : Nat} : ∀ {l : List (List α)}, (∀ r ∈ l, r.length ≤ B) → l.flatten.length ≤ l.length * B
  | [], _ => by simp
  | r :: l, h => by
    have h1 := flat_len (l := l) fun x hx => h x (by simp [hx])
    have h2 := h r (by simp)
    simp only [List.flatten_cons, List.length_append, List.length_cons, Nat.add_mul, Nat.one_mul]
    omega
/-- The elements of the first k. -/
def heads {α : Type} (l : List (List α)) (k : Nat) : List α := (l.take k).flatten
theorem heads_zero {α : Type} {l : List (List α)} : heads l 0 = [] := rfl
theorem heads_succ {α : Type} {l : List (List α)} {k : Nat} {r : List α} (h : l[k]? = some r) : heads l (k + 1) = heads l k ++ r := by
  unfold heads; rw [List.take_succ, h]; simp
theorem heads_all {α : Type} {l : List (List α)} {k : Nat} (h : l.length ≤ k) : heads l k = l.flatten := by
  unfold heads; rw [List.take_of_length_le h]
theorem heads_bound {α : Type} {l : List (List α)} (h : smallS (smallS fun _ : α => True) l) (k : Nat) : (heads l k).length ≤ 1099511627776 := by
  have h1 := flat_len (l := l.take k) (B := 1048576) fun r hr => (h.2 r (List.mem_of_mem_take hr)).1
  have h2 := h.1
  have h3 : (l.take k).length ≤ 1048576 := by simp; omega
  have h4 := Nat.mul_le_mul_right 1048576 h3
  unfold heads
  omega

def Train.boats (t : Train) : List Boat := t.Rows.flatten
theorem boats_le {t : Train} (h : t.small) : t.boats.length ≤ 1099511627776 := by
  have := heads_bound h t.Rows.length
  rwa [heads_all (Nat.le_refl _)] at this

theorem l04Boats_c (t : Train) (h : t.small) : PureF Tryz.prog n_spec_l04Boats [.agg (t.enc.map .c)] (.c (.sl 6 (t.boats.map Boat.enc))) := by
  refine pure_of h_spec_l04Boats (by simp) fun hwf => ?_
  simp -dsimp -implicitDefEqProofs [c_spec_l04Boats]
  refine loop_rule (ι := Nat) (fun k => k ≤ t.Rows.length) (fun k => stOf [(1, .box 1 0), (3, .own 5 6 (heads t.Rows k).length), (4, .c (.i k))] [(1, .box (t.enc.map .c)), (5, .row 6 ((heads t.Rows k).map Boat.enc))]) (fun k => t.Rows.length - k) 0 (by simp) (by apply le_of <;> simp [AV.refs1, AV.ref0, Obj.refs1, heads_zero]) ?_
  rintro k hk
  rcases Nat.lt_or_ge k t.Rows.length with hlt | hge
  · obtain ⟨r, hr⟩ : ∃ r, t.Rows[k]? = some r := ⟨_, List.getElem?_eq_getElem hlt⟩
    have hb := heads_bound h (k + 1)
    have hf := heads_succ hr
    rw [hf, List.length_append] at hb
    have hm := h.1
    simp -dsimp -implicitDefEqProofs [hr, lt_t hlt]
    intro hlen
    refine ⟨by omega, inI_succ hlt hlen, k + 1, hlt, by omega, ?_⟩
    apply le_of <;> simp [AV.refs1, AV.ref0, Obj.refs1, hf]
  · simp -dsimp -implicitDefEqProofs [lt_f hge]
    rw [heads_all hge]
    intro _
    rw [List.take_of_length_le (by rw [List.length_map]; exact Nat.le_refl _)]; rfl

def BoatOk (b : Boat) : Bool := inRange b.Id 1 9999 && inRange b.Length 1 200 && inRange b.Width 1 30 && inRange b.Draught 1 100 && inRange b.Speed 1 50 && inRange b.Class 0 2
theorem BoatOk_spec (b : Boat) : PureF Tryz.prog n_spec_BoatOk [.agg (b.enc.map .c)] (.c (.b (BoatOk b))) := by
  refine pure_of h_spec_BoatOk (by simp) fun hwf => ?_
  simp -dsimp -implicitDefEqProofs [c_spec_BoatOk]
  refine call_lend (inRange_spec b.Id 1 9999) (by simp) rfl ?_
  simp -dsimp -implicitDefEqProofs
  refine ⟨fun h => ?_, fun h => by simp [BoatOk, h]⟩
  refine call_lend (inRange_spec b.Length 1 200) (by simp) rfl ?_
  simp -dsimp -implicitDefEqProofs
  refine ⟨fun h1 => ?_, fun h1 => by simp [BoatOk, h1]⟩
  refine call_lend (inRange_spec b.Width 1 30) (by simp) rfl ?_
  simp -dsimp -implicitDefEqProofs
  refine ⟨fun h2 => ?_, fun h1 => by simp [BoatOk, h1]⟩
  refine call_lend (inRange_spec b.Draught 1 100) (by simp) rfl ?_
  simp -dsimp -implicitDefEqProofs
  refine ⟨fun h3 => ?_, fun h1 => by simp [BoatOk, h1]⟩
  refine call_lend (inRange_spec b.Speed 1 50) (by simp) rfl ?_
  simp -dsimp -implicitDefEqProofs
  refine ⟨fun h4 => ?_, fun h1 => by simp [BoatOk, h1]⟩
  refine call_lend (inRange_spec b.Class 0 2) (by simp) rfl ?_
  simp -dsimp -implicitDefEqProofs
  simp [BoatOk, h, h1, h2, h3, h4]
theorem BoatOk_impl (b : Boat) : PureF Tryz.prog n_impl_BoatOk [.agg (b.enc.map .c)] (.c (.b (BoatOk b))) := by
  refine pure_of h_impl_BoatOk (by simp) fun hwf => ?_
  simp -dsimp -implicitDefEqProofs [c_impl_BoatOk]
  refine call_lend (inRange_impl b.Id 1 9999) (by simp) rfl ?_
  simp -dsimp -implicitDefEqProofs
  refine ⟨fun h => ?_, fun h => by simp [BoatOk, h]⟩
  refine call_lend (inRange_impl b.Length 1 200) (by simp) rfl ?_
  simp -dsimp -implicitDefEqProofs
  refine ⟨fun h1 => ?_, fun h1 => by simp [BoatOk, h1]⟩
  refine call_lend (inRange_impl b.Width 1 30) (by simp) rfl ?_
  simp -dsimp -implicitDefEqProofs
  refine ⟨fun h2 => ?_, fun h1 => by simp [BoatOk, h1]⟩
  refine call_lend (inRange_impl b.Draught 1 100) (by simp) rfl ?_
  simp -dsimp -implicitDefEqProofs
  refine ⟨fun h3 => ?_, fun h1 => by simp [BoatOk, h1]⟩
  refine call_lend (inRange_impl b.Speed 1 50) (by simp) rfl ?_
  simp -dsimp -implicitDefEqProofs
  refine ⟨fun h4 => ?_, fun h1 => by simp [BoatOk, h1]⟩
  refine call_lend (inRange_impl b.Class 0 2) (by simp) rfl ?_
  simp -dsimp -implicitDefEqProofs
  simp [BoatOk, h, h1, h2, h3, h4]

/-- Place of n in a list, or -1. -/
def indexOf (l : List Int) (n : Int) : Int := match l.findIdx? (fun x => n == x) with | some i => i | none => -1
theorem indexOf_nonneg {l : List Int} {n : Int} : (0 ≤ indexOf l n) = (n ∈ l) := by
  unfold indexOf
  cases h : l.findIdx? (fun x => n == x) with
  | none =>
    rw [List.findIdx?_eq_none_iff] at h
    show (0 ≤ (-1 : Int)) = _
    simp only [eq_iff_iff]
    refine ⟨fun h1 => by omega, fun hm => ?_⟩
    have := h n hm
    simp at this
  | some i =>
    rw [List.findIdx?_eq_some_iff_getElem] at h
    obtain ⟨hi, h1, _⟩ := h
    simp only [eq_iff_iff]
    refine ⟨fun _ => ?_, fun _ => by omega⟩
    have : n = l[i] := by simpa using h1
    rw [this]; exact List.getElem_mem _
theorem indexOf_at {l : List Int} {n : Int} {k : Nat} (h : l[k]? = some n) (hn : ∀ x ∈ l.take k, n ≠ x) : indexOf l n = k := by
  unfold indexOf
  have : l.findIdx? (fun x => n == x) = some k := by
    rw [List.findIdx?_eq_some_iff_getElem]
    obtain ⟨hk1, hk2⟩ := List.getElem?_eq_some_iff.1 h
    refine ⟨hk1, by simp [hk2], fun j hj => ?_⟩
    have := hn (l[j]'(by omega)) (List.mem_take_iff_getElem.2 ⟨j, by omega, rfl⟩)
    simpa using this
  rw [this]
theorem indexOf_no {l : List Int} {n : Int} {k : Nat} (hk : l.length ≤ k) (hn : ∀ x ∈ l.take k, n ≠ x) : indexOf l n = -1 := by
  rw [List.take_of_length_le hk] at hn
  unfold indexOf
  have : l.findIdx? (fun x => n == x) = none := by
    rw [List.findIdx?_eq_none_iff]
    intro x hx
    simpa using hn x hx
  rw [this]
theorem takes_ne {l : List Int} {n x : Int} {k : Nat} (h : l[k]? = some x) (hx : n ≠ x) (hn : ∀ x ∈ l.take k, n ≠ x) : ∀ x ∈ l.take (k + 1), n ≠ x := by
  intro y hy
  rw [List.take_succ, h] at hy
  rcases List.mem_append.1 hy with h1 | h1
  · exact hn y h1
  · simp at h1; rw [h1]; exact hx
theorem Index_c (l : List Int) (n : Int) : PureF Tryz.prog n_slices_Index___int_int_ [.c (.sl 1 (l.map ienc)), .c (.i n)] (.c (.i (indexOf l n))) := by
  refine pure_of h_slices_Index___int_int_ (by simp) fun hwf => ?_
  simp -dsimp -implicitDefEqProofs [c_slices_Index___int_int_]
  intro hlen
  refine loop_rule (ι := Nat) (fun k => k ≤ l.length ∧ ∀ x ∈ l.take k, n ≠ x) (fun k => stOf [(0, .c (.sl 1 (l.map ienc))), (1, .c (.i n)), (7, .c (.i l.length)), (8, .c (.i k))] []) (fun k => l.length - k) 0 (by simp) (by apply le_of <;> simp [AV.refs1, AV.ref0, Obj.refs1]) ?_
  rintro k ⟨hk, hn⟩
  rcases Nat.lt_or_ge k l.length with hlt | hge
  · obtain ⟨x, hx⟩ : ∃ x, l[k]? = some x := ⟨_, List.getElem?_eq_getElem hlt⟩
    simp -dsimp -implicitDefEqProofs [hx, lt_t hlt]
    refine ⟨fun h => ?_, fun h => ⟨inI_succ hlt hlen, k + 1, ⟨hlt, takes_ne hx h hn⟩, by omega, by apply le_of <;> simp [AV.refs1, AV.ref0, Obj.refs1]⟩⟩
    exact indexOf_at (h ▸ hx) hn
  · simp -dsimp -implicitDefEqProofs [lt_f hge]
    exact indexOf_no hge hn
theorem Contains_c (l : List Int) (n : Int) : PureF Tryz.prog n_slices_Contains___int_int_ [.c (.sl 1 (l.map ienc)), .c (.i n)] (.c (.b (decide (n ∈ l)))) := by
  refine pure_of h_slices_Contains___int_int_ (by simp) fun hwf => ?_
  simp -dsimp -implicitDefEqProofs [c_slices_Contains___int_int_]
  refine call_lend (Index_c l n) (by simp) rfl ?_
  simp -dsimp -implicitDefEqProofs [indexOf_nonneg]
def idOf (b : Boat) : Int := b.Id
def full (r : List Boat) : Bool := decide (r.length ≠ 0)
theorem full_iff {r : List Boat} : full r = true ↔ r.length ≠ 0 := by simp [full]
def TrainOk (t : Train) : Bool := t.Rows.all full && t.boats.all BoatOk && decide ((t.boats.map idOf).Nodup) && inRange t.boats.length 1 6

theorem nodup_take {l : List Boat} {k : Nat} {b : Boat} (h : l[k]? = some b) : (((l.take (k + 1)).map idOf).Nodup ↔ ((l.take k).map idOf).Nodup ∧ b.Id ∉ (l.take k).map idOf) := by
  rw [List.take_succ, h, List.map_append]
  simp only [Option.toList_some, List.map_cons, List.map_nil, List.nodup_append, List.nodup_cons, List.not_mem_nil, not_false_eq_true, List.nodup_nil, and_self, true_and, List.mem_singleton, forall_eq, idOf]
  constructor
  · rintro ⟨h1, h2⟩; exact ⟨h1, fun hm => h2 _ hm rfl⟩
  · rintro ⟨h1, h2⟩; exact ⟨h1, fun x hx e => h2 (e ▸ hx)⟩
theorem not_nodup {l : List Boat} {k : Nat} (h : ¬ ((l.take k).map idOf).Nodup) : ¬ (l.map idOf).Nodup := by
  intro hn
  refine h ?_
  rw [← List.take_append_drop k l, List.map_append] at hn
  exact (List.nodup_append.1 hn).1

def idsTo (l : List Boat) (k : Nat) : List Int := (l.take k).map idOf
theorem TrainOk_spec (t : Train) (h : t.small) : PureF Tryz.prog n_spec_TrainOk [.agg (t.enc.map .c)] (.c (.b (TrainOk t))) := by
  refine pure_of h_spec_TrainOk (by simp) fun hwf => ?_
  simp -dsimp -implicitDefEqProofs [c_spec_TrainOk]
  refine call_pure (l04Boats_c t h) (by simp) rfl ?_
  simp -dsimp -implicitDefEqProofs
  refine loop_rule (ι := Nat) (fun k => k ≤ t.Rows.length ∧ ∀ r ∈ t.Rows.take k, full r = true) (fun k => stOf [(1, .box 1 0), (3, .c (.sl 6 (t.boats.map Boat.enc))), (4, .c (.i k))] [(1, .box (t.enc.map .c))]) (fun k => t.Rows.length - k) 0 (by simp) (by apply le_of <;> simp [AV.refs1, AV.ref0, Obj.refs1]) ?_
  rintro k ⟨hk, hall⟩
  rcases Nat.lt_or_ge k t.Rows.length with hlt | hge
  · obtain ⟨r, hr⟩ : ∃ r, t.Rows[k]? = some r := ⟨_, List.getElem?_eq_getElem hlt⟩
    simp -dsimp -implicitDefEqProofs [hr, lt_t hlt]
    intro hlen _
    refine ⟨fun h0 => ?_, fun h0 => ?_⟩
    · have : t.Rows.all full = false := all_false (p := full) hr (by simp [full, h0])
      simp only [TrainOk, this, Bool.false_and]
    · exact ⟨inI_succ hlt hlen, k + 1, ⟨by omega, all_take_succ (p := full) hr hall (by simp [full, h0])⟩, by omega, by apply le_of <;> simp [AV.refs1, AV.ref0, Obj.refs1]⟩
  · have hrows := all_of_take (p := full) hge hall
    simp -dsimp -implicitDefEqProofs [lt_f hge]
    intro _
    have hbl := boats_le h
    refine loop_rule (ι := Nat) (fun k => k ≤ t.boats.length ∧ (∀ b ∈ t.boats.take k, BoatOk b = true) ∧ (idsTo t.boats k).Nodup) (fun k => stOf [(3, .c (.sl 6 (t.boats.map Boat.enc))), (5, .c (.i k))] []) (fun k => t.boats.length - k) 0 (by simp [idsTo]) (by apply le_of <;> simp [AV.refs1, AV.ref0, Obj.refs1]) ?_
    rintro k ⟨hk, hok, hnd⟩
    have fin : t.boats.length ≤ 6 → k = t.boats.length → TrainOk t = inRange t.boats.length 1 6 := by
      intro h6 e
      have h1 := all_of_take (p := BoatOk) (by omega) hok
      rw [e, idsTo, List.take_length] at hnd
      simp [TrainOk, hrows, h1, hnd]
    rcases Nat.lt_or_ge k t.boats.length with hlt | hge
    · obtain ⟨b, hb⟩ : ∃ b, t.boats[k]? = some b := ⟨_, List.getElem?_eq_getElem hlt⟩
      by_cases h6 : t.boats.length ≤ 6
      · have h6' : ((t.boats.length : Int) ≤ 6) = True := by simp; omega
        simp -dsimp -implicitDefEqProofs [hb, lt_t hlt, h6']
        intro hlen
        refine call_lend (BoatOk_spec b) (by simp) rfl ?_
        simp -dsimp -implicitDefEqProofs
        refine ⟨fun h1 => ?_, fun h1 => ?_⟩
        · have : t.boats.all BoatOk = false := all_false (p := BoatOk) hb h1
          simp only [TrainOk, this, Bool.false_and, Bool.and_false]
        have hok' := all_take_succ (p := BoatOk) hb hok h1
        refine loop_rule (ι := Nat) (fun i => i ≤ k ∧ b.Id ∉ idsTo t.boats i) (fun i => stOf [(3, .c (.sl 6 (t.boats.map Boat.enc))), (5, .c (.i k)), (6, .c (.i i))] []) (fun i => k - i) 0 (by simp [idsTo]) (by apply le_of <;> simp [AV.refs1, AV.ref0, Obj.refs1]) ?_
        rintro i ⟨hi, hni⟩
        rcases Nat.lt_or_ge i k with hlt2 | hge2
        · obtain ⟨c, hc⟩ : ∃ c, t.boats[i]? = some c := ⟨_, List.getElem?_eq_getElem (by omega)⟩
          have hi3 : (i : Int) < t.boats.length := by omega
          simp -dsimp -implicitDefEqProofs [hb, hc, lt_t hlt, lt_t hlt2, hi3]
          refine ⟨fun h2 => ?_, fun h2 => ?_⟩
          · have : ¬ (t.boats.map idOf).Nodup := by
              refine not_nodup (k := k + 1) fun hn => ?_
              refine ((nodup_take hb).1 hn).2 ?_
              rw [← h2]
              exact List.mem_map.2 ⟨c, List.mem_iff_getElem?.2 ⟨i, by rw [List.getElem?_take, if_pos hlt2]; exact hc⟩, rfl⟩
            simp [TrainOk, this]
          · refine ⟨by unfold inI; omega, i + 1, ⟨hlt2, ?_⟩, by omega, by apply le_of <;> simp [AV.refs1, AV.ref0, Obj.refs1]⟩
            rw [idsTo, List.take_succ, hc, List.map_append]
            simp only [List.mem_append, Option.toList_some, List.map_cons, List.map_nil, List.mem_singleton, idOf]
            rintro (h3 | h3)
            · exact hni h3
            · exact h2 h3.symm
        · simp -dsimp -implicitDefEqProofs [lt_f hge2]
          have e : i = k := by omega
          rw [e] at hni
          exact ⟨by unfold inI; omega, k + 1, ⟨hlt, hok', (nodup_take hb).2 ⟨hnd, hni⟩⟩, by omega, by apply le_of <;> simp [AV.refs1, AV.ref0, Obj.refs1]⟩
      · have h6' : ((t.boats.length : Int) ≤ 6) = False := by simp; omega
        simp -dsimp -implicitDefEqProofs [hb, lt_t hlt, h6']
        intro hlen
        refine call_lend (inRange_spec t.boats.length 1 6) (by simp) rfl ?_
        simp -dsimp -implicitDefEqProofs
        have h7 : inRange t.boats.length 1 6 = false := inRange_not.2 (by omega)
        simp only [TrainOk, h7, Bool.and_false]
    · simp -dsimp -implicitDefEqProofs [lt_f hge]
      intro hlen
      refine call_lend (inRange_spec t.boats.length 1 6) (by simp) rfl ?_
      simp -dsimp -implicitDefEqProofs
      by_cases h6 : t.boats.length ≤ 6
      · rw [fin h6 (by omega)]
      · have h7 : inRange t.boats.length 1 6 = false := inRange_not.2 (by omega)
        simp only [TrainOk, h7, Bool.and_false]
theorem boats_split {t : Train} {k : Nat} {r : List Boat} (h : t.Rows[k]? = some r) : ∃ m, t.boats = heads t.Rows k ++ r ++ m := by
  refine ⟨(t.Rows.drop (k + 1)).flatten, ?_⟩
  unfold Train.boats
  conv => lhs; rw [← List.take_append_drop (k + 1) t.Rows]
  rw [List.flatten_append, ← heads_succ h]; rfl
theorem tf_full {t : Train} {k : Nat} {r : List Boat} (h : t.Rows[k]? = some r) (h0 : r.length = 0) : TrainOk t = false := by
  have : t.Rows.all full = false := all_false (p := full) h (by simp [full, h0])
  simp only [TrainOk, this, Bool.false_and]
theorem tf_len {t : Train} (h : 6 < t.boats.length) : TrainOk t = false := by
  have h7 : inRange t.boats.length 1 6 = false := inRange_not.2 (by omega)
  simp only [TrainOk, h7, Bool.and_false]
theorem tf_boat {t : Train} {b : Boat} (hb : b ∈ t.boats) (h : BoatOk b = false) : TrainOk t = false := by
  obtain ⟨i, hi⟩ := List.getElem?_of_mem hb
  have : t.boats.all BoatOk = false := all_false (p := BoatOk) hi h
  simp only [TrainOk, this, Bool.false_and, Bool.and_false]
theorem tf_ids {t : Train} (h : ¬ (t.boats.map idOf).Nodup) : TrainOk t = false := by simp [TrainOk, h]
/-- The array of the Ids that were met. -/
def seenOf (l : List Boat) : List (List C) := (l.map idOf).map ienc ++ List.replicate (6 - l.length) [.i 0]
theorem seen_len {l : List Boat} (h : l.length ≤ 6) : (seenOf l).length = 6 := by simp [seenOf]; omega
theorem seen_take {l : List Boat} {n : Nat} (h : n = l.length) : (seenOf l).take n = (l.map idOf).map ienc := by
  subst h; unfold seenOf; rw [List.take_append_of_le_length (by simp), List.take_of_length_le (by simp)]
theorem seen_set {l : List Boat} {b : Boat} (h : l.length < 6) : (seenOf l).set l.length [.i b.Id] = seenOf (l ++ [b]) := by
  unfold seenOf
  rw [List.set_append_right _ _ (by simp)]
  have h1 : ((l.map idOf).map ienc).length = l.length := by simp
  rw [h1, Nat.sub_self, show 6 - l.length = (6 - (l.length + 1)) + 1 by omega, List.replicate_succ, List.set_cons_zero]
  simp [idOf]
theorem seen_get {l : List Boat} (h : l.length < 6) : (seenOf l)[l.length]?.getD [] = [.i 0] := by
  unfold seenOf
  rw [List.getElem?_append_right (by simp)]
  have h1 : ((l.map idOf).map ienc).length = l.length := by simp
  rw [h1, Nat.sub_self, List.getElem?_replicate, if_pos (by omega)]; rfl
theorem seen_nil : seenOf [] = List.replicate 6 [.i 0] := rfl

/-- What holds of the boats met so far. -/
structure Met (l : List Boat) : Prop where
  ok : ∀ b ∈ l, BoatOk b = true
  nd : (l.map idOf).Nodup
  len : l.length ≤ 6
theorem Met.snoc {l : List Boat} {b : Boat} (h : Met l) (h1 : BoatOk b = true) (h2 : b.Id ∉ l.map idOf) (h3 : l.length < 6) : Met (l ++ [b]) := by
  refine ⟨?_, ?_, by simp; omega⟩
  · intro x hx
    rcases List.mem_append.1 hx with hx | hx
    · exact h.ok x hx
    · rw [List.mem_singleton.1 hx]; exact h1
  · have := @nodup_take (l ++ [b]) l.length b (by simp)
    rw [show l.length + 1 = (l ++ [b]).length by simp, List.take_length] at this
    rw [this, List.take_left']
    · exact ⟨h.nd, h2⟩
    · rfl
def soFar (t : Train) (k : Nat) (r : List Boat) (j : Nat) : List Boat := heads t.Rows k ++ r.take j
theorem soFar_zero {t : Train} {k : Nat} {r : List Boat} : soFar t k r 0 = heads t.Rows k := by simp [soFar]
theorem soFar_succ {t : Train} {k : Nat} {r : List Boat} {j : Nat} {b : Boat} (h : r[j]? = some b) : soFar t k r (j + 1) = soFar t k r j ++ [b] := by
  unfold soFar; rw [List.take_succ, h]; simp
theorem soFar_all {t : Train} {k : Nat} {r : List Boat} {j : Nat} (hr : t.Rows[k]? = some r) (h : r.length ≤ j) : soFar t k r j = heads t.Rows (k + 1) := by
  unfold soFar; rw [List.take_of_length_le h, heads_succ hr]
theorem soFar_len {t : Train} {k : Nat} {r : List Boat} {j : Nat} (h : j ≤ r.length) : (soFar t k r j).length = (heads t.Rows k).length + j := by
  unfold soFar; simp; omega

theorem TrainOk_impl (t : Train) (h : t.small) : PureF Tryz.prog n_impl_TrainOk [.agg (t.enc.map .c)] (.c (.b (TrainOk t))) := by
  refine pure_of h_impl_TrainOk (by simp) fun hwf => ?_
  simp -dsimp -implicitDefEqProofs [c_impl_TrainOk]
  intro hlen
  refine ⟨fun h0 _ => ⟨fun h1 => ?_, fun h1 _ => ?_⟩, fun h0 => ?_⟩
  · by_cases h2 : TrainOk t = false
    · exact h2
    · exfalso
      have h3 : TrainOk t = true := by simpa using h2
      simp only [TrainOk, Bool.and_eq_true, List.all_eq_true] at h3
      obtain ⟨⟨⟨h4, _⟩, _⟩, h5⟩ := h3
      have h6 := inRange_iff.1 h5
      have : ∀ l : List (List Boat), (∀ r ∈ l, full r = true) → l.length ≤ l.flatten.length := by
        intro l
        induction l with
        | nil => simp
        | cons r l ih =>
          intro hl
          have e1 := ih fun x hx => hl x (by simp [hx])
          have e2 := full_iff.1 (hl r (by simp))
          simp only [List.length_cons, List.flatten_cons, List.length_append]; omega
      have := this t.Rows h4
      unfold Train.boats at h6
      omega
  · refine loop_rule (ι := Nat) (fun k => k ≤ t.Rows.length ∧ (∀ r ∈ t.Rows.take k, full r = true) ∧ Met (heads t.Rows k)) (fun k => stOf [(3, .row 3 1 0 0), (4, .c (.i (heads t.Rows k).length)), (20, .c (.sl 1 (t.Rows.map enc_BoatS))), (21, .c (.i t.Rows.length)), (22, .c (.i k))] [(3, .row 1 (seenOf (heads t.Rows k)))]) (fun k => t.Rows.length - k) 0 ⟨by simp, by simp, by simp [heads_zero], by simp [heads_zero], by simp [heads_zero]⟩ (by apply le_of <;> simp [AV.refs1, AV.ref0, Obj.refs1, heads_zero, seen_nil]) ?_
    rintro k ⟨hk, hall, hm⟩
    rcases Nat.lt_or_ge k t.Rows.length with hlt | hge
    · obtain ⟨r, hr⟩ : ∃ r, t.Rows[k]? = some r := ⟨_, List.getElem?_eq_getElem hlt⟩
      have hml := hm.len
      have hrs := (h.2 r (List.mem_of_getElem? hr)).1
      obtain ⟨rest, hsp⟩ := boats_split hr
      simp -dsimp -implicitDefEqProofs [hr, lt_t hlt]
      intro hrl
      refine ⟨fun hr0 _ => ⟨by unfold inI; omega, fun h6 => ?_, fun h6 _ => ?_⟩, fun hr0 => ?_⟩
      · refine tf_len ?_
        rw [hsp]; simp only [List.length_append]; omega
      · refine loop_rule (ι := Nat) (fun j => j ≤ r.length ∧ Met (soFar t k r j)) (fun j => stOf [(3, .row 3 1 0 0), (4, .c (.i (soFar t k r j).length)), (20, .c (.sl 1 (t.Rows.map enc_BoatS))), (21, .c (.i t.Rows.length)), (22, .c (.i k)), (36, .c (.sl 6 (r.map Boat.enc))), (37, .c (.i r.length)), (38, .c (.i j))] [(3, .row 1 (seenOf (soFar t k r j)))]) (fun j => r.length - j) 0 ⟨by simp, by rw [soFar_zero]; exact hm⟩ (by apply le_of <;> simp [AV.refs1, AV.ref0, Obj.refs1, soFar_zero]) ?_
        rintro j ⟨hj, hmj⟩
        rcases Nat.lt_or_ge j r.length with hlt2 | hge2
        · obtain ⟨b, hb⟩ : ∃ b, r[j]? = some b := ⟨_, List.getElem?_eq_getElem hlt2⟩
          have hsl := soFar_len (t := t) (k := k) hj
          have hlt6 : (soFar t k r j).length < 6 := by omega
          have hmem : b ∈ t.boats := by
            rw [hsp]; simp only [List.mem_append]; exact .inl (.inr (List.mem_of_getElem? hb))
          simp -dsimp -implicitDefEqProofs [hb, lt_t hlt2]
          refine ⟨_, _, BoatOk_impl b, by simp, .inr rfl, ?_⟩
          simp -dsimp -implicitDefEqProofs
          refine ⟨fun h2 => ?_, fun h2 => tf_boat hmem h2⟩
          have hsn := seen_len hmj.len
          refine ⟨by omega, hsn, ?_⟩
          refine ⟨_, _, Contains_c ((soFar t k r j).map idOf) b.Id, by simp [seen_take], .inr rfl, ?_⟩
          simp -dsimp -implicitDefEqProofs [lt_t hlt2, seen_get hlt6, seen_set hlt6]
          refine ⟨fun x hx he => tf_ids fun hn => ?_, fun h3 => ?_⟩
          · have hsp2 : t.boats = soFar t k r j ++ (b :: (r.drop (j + 1) ++ rest)) := by
              rw [hsp]; unfold soFar
              have : r = r.take j ++ b :: r.drop (j + 1) := by
                conv => lhs; rw [← List.take_append_drop j r]
                rw [List.drop_eq_getElem_cons hlt2, (List.getElem?_eq_some_iff.1 hb).2]
              conv => lhs; rw [this]
              simp
            rw [hsp2, List.map_append, List.map_cons] at hn
            exact (List.nodup_append.1 hn).2.2 _ (List.mem_map_of_mem hx) _ (List.mem_cons_self) he
          · have hni : b.Id ∉ (soFar t k r j).map idOf := by
              intro hm'
              obtain ⟨x, hx, he⟩ := List.mem_map.1 hm'
              exact h3 x hx he
            have hs1 := soFar_succ (t := t) (k := k) hb
            refine ⟨by omega, by omega, by unfold inI; omega, by unfold inI; omega, j + 1, ⟨hlt2, by rw [hs1]; exact hmj.snoc h2 hni hlt6⟩, by omega, ?_⟩
            apply le_of <;> simp [AV.refs1, AV.ref0, Obj.refs1, hs1]
        · simp -dsimp -implicitDefEqProofs [lt_f hge2]
          rw [soFar_all hr hge2] at hmj
          refine ⟨by unfold inI; omega, k + 1, ⟨hlt, all_take_succ (p := full) hr hall (by simp [full, hr0]), hmj⟩, by omega, ?_⟩
          apply le_of <;> simp [AV.refs1, AV.ref0, Obj.refs1, soFar_all hr hge2]
      · exact tf_full hr (by simp [hr0])
    · simp -dsimp -implicitDefEqProofs [lt_f hge]
      rw [heads_all hge] at hm
      have hr1 := all_of_take (p := full) hge hall
      have hb1 : t.boats.all BoatOk = true := List.all_eq_true.2 hm.ok
      have hl1 : 0 < t.boats.length := by
        obtain ⟨r, l, e⟩ := List.exists_cons_of_ne_nil h0
        have := full_iff.1 (List.all_eq_true.1 hr1 r (by rw [e]; simp))
        unfold Train.boats
        rw [e]; simp only [List.flatten_cons, List.length_append]; omega
      have hl2 : t.boats.length ≤ 6 := hm.len
      have h7 : inRange t.boats.length 1 6 = true := inRange_iff.2 (by omega)
      have hn1 : (t.boats.map idOf).Nodup := hm.nd
      simp [TrainOk, hr1, hb1, hn1, h7]
  · have : t.boats = [] := by simp [Train.boats, h0]
    have h7 : inRange t.boats.length 1 6 = false := by rw [this]; rfl
    simp only [TrainOk, h7, Bool.and_false]
def MoverOk (m : Mover) (w : Way) : Bool := WayOk w && TrainOk m.Train && inRange m.Place 0 w.Long
theorem MoverOk_impl (m : Mover) (w : Way) (h : m.small) : PureF Tryz.prog n_impl_MoverOk [.agg (m.enc.map .c), .agg (w.enc.map .c)] (.c (.b (MoverOk m w))) := by
  refine pure_of h_impl_MoverOk (by simp) fun hwf => ?_
  simp -dsimp -implicitDefEqProofs [c_impl_MoverOk]
  refine call_lend (WayOk_impl w) (by simp) rfl ?_
  simp -dsimp -implicitDefEqProofs
  refine ⟨fun h1 => ?_, fun h1 => by simp [MoverOk, h1]⟩
  refine call_lend (TrainOk_impl m.Train h) (by simp) rfl ?_
  simp -dsimp -implicitDefEqProofs
  refine ⟨fun h2 => ?_, fun h2 => by simp [MoverOk, h2]⟩
  refine call_lend (inRange_impl m.Place 0 w.Long) (by simp) rfl ?_
  simp -dsimp -implicitDefEqProofs
  simp [MoverOk, h1, h2]
theorem MoverOk_spec (m : Mover) (w : Way) (h : m.small) : PureF Tryz.prog n_spec_MoverOk [.agg (m.enc.map .c), .agg (w.enc.map .c)] (.c (.b (MoverOk m w))) := by
  refine pure_of h_spec_MoverOk (by simp) fun hwf => ?_
  simp -dsimp -implicitDefEqProofs [c_spec_MoverOk]
  refine call_lend (WayOk_spec w) (by simp) rfl ?_
  simp -dsimp -implicitDefEqProofs
  refine ⟨fun h1 => ?_, fun h1 => by simp [MoverOk, h1]⟩
  refine call_lend (TrainOk_spec m.Train h) (by simp) rfl ?_
  simp -dsimp -implicitDefEqProofs
  refine ⟨fun h2 => ?_, fun h2 => by simp [MoverOk, h2]⟩
  refine call_lend (inRange_spec m.Place 0 w.Long) (by simp) rfl ?_
  simp -dsimp -implicitDefEqProofs
  simp [MoverOk, h1, h2]
def endOf (t : Train) (w : Way) : Int := if t.Up then 0 else w.Long
def AtEnd (m : Mover) (w : Way) : Bool := MoverOk m w && decide (m.Place = endOf m.Train w)
/-- The greatest, the least of what the boats have. -/
def maxOf (f : Boat → Int) (l : List Boat) (z : Int) : Int := l.foldl (fun m b => if m < f b then f b else m) z
def minOf (f : Boat → Int) (l : List Boat) (z : Int) : Int := l.foldl (fun m b => if f b < m then f b else m) z
def maxTo (f : Boat → Int) (l : List Boat) (z : Int) (k : Nat) : Int := maxOf f (l.take k) z
def minTo (f : Boat → Int) (l : List Boat) (z : Int) (k : Nat) : Int := minOf f (l.take k) z
theorem maxTo_zero {f : Boat → Int} {l : List Boat} {z : Int} : maxTo f l z 0 = z := rfl
theorem minTo_zero {f : Boat → Int} {l : List Boat} {z : Int} : minTo f l z 0 = z := rfl
theorem maxTo_succ {f : Boat → Int} {l : List Boat} {z : Int} {k : Nat} {b : Boat} (h : l[k]? = some b) : maxTo f l z (k + 1) = if maxTo f l z k < f b then f b else maxTo f l z k := by
  unfold maxTo maxOf; rw [List.take_succ, h, List.foldl_append]; rfl
theorem minTo_succ {f : Boat → Int} {l : List Boat} {z : Int} {k : Nat} {b : Boat} (h : l[k]? = some b) : minTo f l z (k + 1) = if f b < minTo f l z k then f b else minTo f l z k := by
  unfold minTo minOf; rw [List.take_succ, h, List.foldl_append]; rfl
theorem maxTo_all {f : Boat → Int} {l : List Boat} {z : Int} {k : Nat} (h : l.length ≤ k) : maxTo f l z k = maxOf f l z := by
  unfold maxTo; rw [List.take_of_length_le h]
theorem minTo_all {f : Boat → Int} {l : List Boat} {z : Int} {k : Nat} (h : l.length ≤ k) : minTo f l z k = minOf f l z := by
  unfold minTo; rw [List.take_of_length_le h]
theorem maxOf_in {f : Boat → Int} {a b : Int} : ∀ {l : List Boat} {z : Int}, (∀ x ∈ l, a ≤ f x ∧ f x ≤ b) → a ≤ z → z ≤ b → a ≤ maxOf f l z ∧ maxOf f l z ≤ b
  | [], z, _, h1, h2 => ⟨h1, h2⟩
  | x :: l, z, h, h1, h2 => by
    have := h x (by simp)
    unfold maxOf
    rw [List.foldl_cons]
    refine maxOf_in (l := l) (fun y hy => h y (by simp [hy])) ?_ ?_ <;> split <;> omega
theorem minOf_in {f : Boat → Int} {a b : Int} : ∀ {l : List Boat} {z : Int}, (∀ x ∈ l, a ≤ f x ∧ f x ≤ b) → a ≤ z → z ≤ b → a ≤ minOf f l z ∧ minOf f l z ≤ b
  | [], z, _, h1, h2 => ⟨h1, h2⟩
  | x :: l, z, h, h1, h2 => by
    have := h x (by simp)
    unfold minOf
    rw [List.foldl_cons]
    refine minOf_in (l := l) (fun y hy => h y (by simp [hy])) ?_ ?_ <;> split <;> omega

structure TrainFacts (t : Train) : Prop where
  rows : ∀ r ∈ t.Rows, full r = true
  ok : ∀ b ∈ t.boats, BoatOk b = true
  nd : (t.boats.map idOf).Nodup
  pos : 1 ≤ t.boats.length
  len : t.boats.length ≤ 6
theorem trainFacts {t : Train} (h : TrainOk t = true) : TrainFacts t := by
  simp only [TrainOk, Bool.and_eq_true, List.all_eq_true, decide_eq_true_eq] at h
  obtain ⟨⟨⟨h1, h2⟩, h3⟩, h4⟩ := h
  have h5 := inRange_iff.1 h4
  exact ⟨h1, h2, h3, by omega, by omega⟩
theorem boatFacts {b : Boat} (h : BoatOk b = true) : (1 ≤ b.Id ∧ b.Id ≤ 9999) ∧ (1 ≤ b.Length ∧ b.Length ≤ 200) ∧ (1 ≤ b.Width ∧ b.Width ≤ 30) ∧ (1 ≤ b.Draught ∧ b.Draught ≤ 100) ∧ (1 ≤ b.Speed ∧ b.Speed ≤ 50) ∧ (0 ≤ b.Class ∧ b.Class ≤ 2) := by
  simp only [BoatOk, Bool.and_eq_true] at h
  obtain ⟨⟨⟨⟨⟨h1, h2⟩, h3⟩, h4⟩, h5⟩, h6⟩ := h
  exact ⟨inRange_iff.1 h1, inRange_iff.1 h2, inRange_iff.1 h3, inRange_iff.1 h4, inRange_iff.1 h5, inRange_iff.1 h6⟩

theorem boatsOf_c (t : Train) (h : t.small) : PureF Tryz.prog n_impl_boatsOf [.agg (t.enc.map .c)] (.c (.sl 6 (t.boats.map Boat.enc))) := by
  refine pure_of h_impl_boatsOf (by simp) fun hwf => ?_
  simp -dsimp -implicitDefEqProofs [c_impl_boatsOf]
  intro hlen
  refine virt_rule (k0 := 6) 3 6 (by simp) (by simp) (by decide) ?_
  refine loop_rule (ι := Nat) (fun k => k ≤ t.Rows.length) (fun k => stOf [(3, .own 3 6 (heads t.Rows k).length), (7, .c (.sl 1 (t.Rows.map enc_BoatS))), (8, .c (.i t.Rows.length)), (9, .c (.i k))] [(3, .row 6 ((heads t.Rows k).map Boat.enc))]) (fun k => t.Rows.length - k) 0 (by simp) (by apply le_of <;> simp [AV.refs1, AV.ref0, Obj.refs1, heads_zero]) ?_
  rintro k hk
  rcases Nat.lt_or_ge k t.Rows.length with hlt | hge
  · obtain ⟨r, hr⟩ : ∃ r, t.Rows[k]? = some r := ⟨_, List.getElem?_eq_getElem hlt⟩
    have hb := heads_bound h (k + 1)
    have hf := heads_succ hr
    rw [hf, List.length_append] at hb
    simp -dsimp -implicitDefEqProofs [hr, lt_t hlt]
    refine ⟨by omega, inI_succ hlt hlen, k + 1, hlt, by omega, ?_⟩
    apply le_of <;> simp [AV.refs1, AV.ref0, Obj.refs1, hf]
  · simp -dsimp -implicitDefEqProofs [lt_f hge]
    rw [heads_all hge]
    rw [List.take_of_length_le (by rw [List.length_map]; exact Nat.le_refl _)]; rfl

def DraughtOf (t : Train) : Int := if TrainOk t then maxOf Boat.Draught t.boats 0 else 0
def firstOf (f : Boat → Int) (l : List Boat) : Int := match l with | b :: _ => f b | [] => 0
def SpeedOf (t : Train) : Int := if TrainOk t then minOf Boat.Speed t.boats (firstOf Boat.Speed t.boats) else 0
theorem get0 {l : List Boat} {b : Boat} (h : l[0]? = some b) (f : Boat → Int) : firstOf f l = f b := by
  cases l with
  | nil => simp at h
  | cons x l => simp at h; rw [h]; rfl
theorem first_row {t : Train} (h : TrainFacts t) : ∃ r b, t.Rows[0]? = some r ∧ r[0]? = some b ∧ t.boats[0]? = some b := by
  have h1 := h.pos
  cases hr : t.Rows with
  | nil => unfold Train.boats at h1; rw [hr] at h1; simp at h1
  | cons r l =>
    have h2 := full_iff.1 (h.rows r (by rw [hr]; simp))
    cases r with
    | nil => simp at h2
    | cons b r => exact ⟨b :: r, b, rfl, rfl, by unfold Train.boats; rw [hr]; rfl⟩
theorem DraughtOf_in (t : Train) : 0 ≤ DraughtOf t ∧ DraughtOf t ≤ 100 := by
  unfold DraughtOf
  split
  · rename_i h
    have hf := trainFacts h
    exact maxOf_in (fun x hx => by have := boatFacts (hf.ok x hx); omega) (by omega) (by omega)
  · omega
theorem SpeedOf_in (t : Train) : 0 ≤ SpeedOf t ∧ SpeedOf t ≤ 50 := by
  unfold SpeedOf
  split
  · rename_i h
    have hf := trainFacts h
    obtain ⟨r, b0, e1, e2, e3⟩ := first_row hf
    have := boatFacts (hf.ok b0 (List.mem_of_getElem? e3))
    exact minOf_in (fun x hx => by have := boatFacts (hf.ok x hx); omega) (by rw [get0 e3]; omega) (by rw [get0 e3]; omega)
  · omega
def PaceOf (t : Train) (depth : Int) : Int := if TrainOk t && inRange depth 0 1000000000 && decide (DraughtOf t ≤ depth) then if 2 * depth < 3 * DraughtOf t then (SpeedOf t + 1).tdiv 2 else SpeedOf t else 0
theorem PaceOf_no1 {t : Train} {d : Int} (h : TrainOk t = false) : PaceOf t d = 0 := by simp [PaceOf, h]
theorem PaceOf_no2 {t : Train} {d : Int} (h : inRange d 0 1000000000 = false) : PaceOf t d = 0 := by simp [PaceOf, h]
theorem PaceOf_no3 {t : Train} {d : Int} (h : d < DraughtOf t) : PaceOf t d = 0 := by
  have : ¬ DraughtOf t ≤ d := by omega
  simp [PaceOf, this]
end Go.Proofs.YtpcopekamgapaaaGreat
