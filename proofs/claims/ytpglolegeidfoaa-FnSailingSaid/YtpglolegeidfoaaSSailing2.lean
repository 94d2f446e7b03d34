/- What the law FnSailing stands on, part 2: contracts of functions, what each answers as plain Lean. -/
import Derived.Test.YtpglolegeidfoaaSSailing1
set_option linter.all false
namespace Go.Proofs.Ytpglolegeidfoaa
open Go.RowKit
open Go.ChangeShapes Go.WideShapes

theorem TableOk_spec (l : List Point) : PureF Try.prog n_spec_TableOk [.c (.sl 2 (l.map Point.enc))] (.c (.b (TableOk l))) := by
  refine pure_of h_spec_TableOk (by simp) fun hwf => ?_
  simp -dsimp -implicitDefEqProofs [c_spec_TableOk]
  refine loop_rule (ι := Nat) (fun k => k ≤ l.length ∧ upTo l k = true) (fun k => stOf [(0, .c (.sl 2 (l.map Point.enc))), (3, .c (.i k))] []) (fun k => l.length - k) 0 ⟨by simp, rfl⟩ (by apply le_of <;> simp [AV.refs1, AV.ref0, Obj.refs1]) ?_
  rintro k ⟨hk, hup⟩
  rcases Nat.lt_or_ge k l.length with hlt | hge
  · obtain ⟨p, hp⟩ : ∃ p, l[k]? = some p := ⟨_, List.getElem?_eq_getElem hlt⟩
    have hbad : ptOk p = false → TableOk l = false := fun e => tb_step hlt (by
      cases k with
      | zero => rw [step_zero hp, e]
      | succ j => rw [step_succ hp (List.getElem?_eq_getElem (by omega)), e, Bool.false_and])
    cases k with
    | zero =>
      have f1 := (List.getElem?_eq_some_iff.1 hp).2
      simp -dsimp -implicitDefEqProofs [hp, hlt, f1]
      intro hlen
      refine ⟨_, _, inRange_spec p.X 0 1000000000, by simp, .inr rfl, ?_⟩
      simp -dsimp -implicitDefEqProofs [hp, hlt, f1]
      refine ⟨fun h2 => ?_, fun h2 => hbad (by simp [ptOk, h2])⟩
      refine ⟨_, _, inRange_spec p.Y 0 1000000000, by simp, .inr rfl, ?_⟩
      simp -dsimp -implicitDefEqProofs [hp, hlt, f1]
      refine ⟨fun h3 => ?_, fun h3 => hbad (by simp [ptOk, h3])⟩
      have hpt : ptOk p = true := by simp [ptOk, h2, h3]
      exact ⟨by unfold inI; omega, 1, ⟨hlt, upTo_next hup (by rw [step_zero hp, hpt])⟩, by omega, by apply le_of <;> simp [AV.refs1, AV.ref0, Obj.refs1]⟩
    | succ j =>
      obtain ⟨q, hq⟩ : ∃ q, l[j]? = some q := ⟨_, List.getElem?_eq_getElem (by omega)⟩
      have hj : (j : Int) + 1 < l.length := by omega
      have hj2 : (j : Int) < l.length := by omega
      have hj3 : (0 : Int) < j + 1 := by omega
      have hj4 : (0 : Int) ≤ j + 1 := by omega
      have hj5 : ((j : Int) + 1).toNat = j + 1 := by omega
      simp -dsimp -implicitDefEqProofs [hp, hq, hj, hj2, hj3, hj4, hj5]
      intro hlen
      refine ⟨_, _, inRange_spec p.X 0 1000000000, by simp, .inr rfl, ?_⟩
      simp -dsimp -implicitDefEqProofs [hp, hq, hj, hj2, hj3, hj4, hj5]
      refine ⟨fun h2 => ?_, fun h2 => hbad (by simp [ptOk, h2])⟩
      refine ⟨_, _, inRange_spec p.Y 0 1000000000, by simp, .inr rfl, ?_⟩
      simp -dsimp -implicitDefEqProofs [hp, hq, hj, hj2, hj3, hj4, hj5]
      refine ⟨fun h3 => ?_, fun h3 => hbad (by simp [ptOk, h3])⟩
      have hpt : ptOk p = true := by simp [ptOk, h2, h3]
      unfold maxLen at hlen
      have hbad2 : follows q p = false → TableOk l = false := fun e => tb_step hlt (by rw [step_succ hp hq, e, Bool.and_false])
      refine ⟨by unfold inI; omega, fun h4 => ⟨by unfold inI; omega, fun h5 => ?_, fun h5 => ?_⟩, fun h4 => ?_⟩
      · exact hbad2 (by simp [follows]; omega)
      · have hf : follows q p = true := by simp [follows, h4, h5]
        exact ⟨by unfold inI; omega, j + 2, ⟨hlt, upTo_next hup (by rw [step_succ hp hq, hpt, hf]; rfl)⟩, by omega, by apply le_of <;> simp [AV.refs1, AV.ref0, Obj.refs1]; omega⟩
      · exact hbad2 (by simp [follows]; omega)
  · simp -dsimp -implicitDefEqProofs [lt_f hge]
    intro hlen
    refine call_lend (inRange_spec l.length 2 20) (by simp) rfl ?_
    simp -dsimp -implicitDefEqProofs
    have e : k = l.length := by omega
    subst e
    simp [TableOk, hup]
def amount (n : Int) : Bool := inRange n 0 1000000000
def l02Sum (r : Reach) : Int := r.Volume + r.Pipe.sum
def ReachOk (r : Reach) : Bool := TableOk r.Table && amount r.Volume && decide (r.Pipe.length ≤ 12) && r.Pipe.all amount && decide (l02Sum r ≤ 1000000000)
theorem sum_nonneg : ∀ {l : List Int}, (∀ x ∈ l, amount x = true) → 0 ≤ l.sum
  | [], _ => by simp
  | x :: l, h => by
    have h1 := sum_nonneg (l := l) fun y hy => h y (by simp [hy])
    have h2 := inRange_iff.1 (show inRange x 0 1000000000 = true from h x (by simp))
    simp only [List.sum_cons]; omega
theorem sum_split {l : List Int} (k : Nat) : l.sum = sumTo l k + (l.drop k).sum := by
  unfold sumTo
  conv => lhs; rw [← List.take_append_drop k l]
  rw [List.sum_append]
theorem rf_sum {r : Reach} {k : Nat} {x : Int} (hx : r.Pipe[k]? = some x) (h : 1000000000 < r.Volume + sumTo r.Pipe k + x) : ReachOk r = false := by
  cases hr : ReachOk r with
  | false => rfl
  | true =>
    exfalso
    simp only [ReachOk, Bool.and_eq_true, List.all_eq_true, decide_eq_true_eq] at hr
    obtain ⟨⟨_, h1⟩, h2⟩ := hr
    have h3 := sum_nonneg (l := r.Pipe.drop (k + 1)) fun y hy => h1 y (List.mem_of_mem_drop hy)
    have h4 := sum_split (l := r.Pipe) (k + 1)
    rw [sumTo_succ hx] at h4
    unfold l02Sum at h2
    omega
theorem rf_amount {r : Reach} {k : Nat} {x : Int} (hx : r.Pipe[k]? = some x) (h : amount x = false) : ReachOk r = false := by
  have : r.Pipe.all amount = false := all_false (p := amount) hx h
  simp [ReachOk, this]
theorem ReachOk_impl (r : Reach) : PureF Try.prog n_impl_ReachOk [.agg (r.enc.map .c)] (.c (.b (ReachOk r))) := by
  refine pure_of h_impl_ReachOk (by simp) fun hwf => ?_
  simp -dsimp -implicitDefEqProofs [c_impl_ReachOk]
  refine call_lend (TableOk_impl r.Table) (by simp) rfl ?_
  simp -dsimp -implicitDefEqProofs
  refine ⟨fun h1 => ?_, fun h1 => by simp [ReachOk, h1]⟩
  refine call_lend (inRange_impl r.Volume 0 1000000000) (by simp) rfl ?_
  simp -dsimp -implicitDefEqProofs
  refine ⟨fun h2 hlen => ⟨fun h3 => ?_, fun h3 => ⟨?_, fun _ => ?_⟩⟩, fun h2 => by simp [ReachOk, amount, h2]⟩
  · have : ¬ r.Pipe.length ≤ 12 := by omega
    simp [ReachOk, this]
  · have := inRange_iff.1 h2
    unfold inI; omega
  have h2' := inRange_iff.1 h2
  refine loop_rule (ι := Nat) (fun k => k ≤ r.Pipe.length ∧ (∀ n ∈ r.Pipe.take k, amount n = true) ∧ 0 ≤ sumTo r.Pipe k ∧ r.Volume + sumTo r.Pipe k ≤ 1000000000) (fun k => stOf [(3, .c (.i (1000000000 - r.Volume - sumTo r.Pipe k))), (26, .c (.sl 1 (r.Pipe.map ienc))), (27, .c (.i r.Pipe.length)), (28, .c (.i k))] []) (fun k => r.Pipe.length - k) 0 ⟨by simp, by simp, by simp [sumTo_zero], by simp only [sumTo_zero]; omega⟩ (by apply le_of <;> simp [AV.refs1, AV.ref0, Obj.refs1, sumTo_zero]) ?_
  rintro k ⟨hk, hall, hs0, hs⟩
  rcases Nat.lt_or_ge k r.Pipe.length with hlt | hge
  · obtain ⟨x, hx⟩ : ∃ x, r.Pipe[k]? = some x := ⟨_, List.getElem?_eq_getElem hlt⟩
    simp -dsimp -implicitDefEqProofs [hx, lt_t hlt]
    refine ⟨fun h4 => ⟨fun h5 => ?_, fun h5 => ?_⟩, fun h4 => ?_⟩
    · exact rf_sum hx (by omega)
    · have ha : amount x = true := inRange_iff.2 (by omega)
      have e1 := sumTo_succ hx
      refine ⟨by unfold inI; omega, inI_succ hlt hlen, k + 1, ⟨hlt, all_take_succ (p := amount) hx hall ha, by rw [e1]; omega, by rw [e1]; omega⟩, by omega, ?_⟩
      apply le_of <;> simp [AV.refs1, AV.ref0, Obj.refs1, e1]; omega
    · exact rf_amount hx (inRange_not.2 (by omega))
  · simp -dsimp -implicitDefEqProofs [lt_f hge]
    have h6 := all_of_take (p := amount) hge hall
    rw [sumTo_all hge] at hs
    simp [ReachOk, h1, show amount r.Volume = true from h2, h6, l02Sum, hs]
    omega
theorem sumTo_bound {l : List Int} (h : ∀ n ∈ l, amount n = true) (hl : l.length ≤ 12) (k : Nat) : 0 ≤ sumTo l k ∧ sumTo l k ≤ 12000000000 := by
  have h1 := sum_bound (l := l.take k) (b := 1000000000) fun x hx => h x (List.mem_of_mem_take hx)
  have h2 : (l.take k).length ≤ 12 := by simp; omega
  unfold sumTo
  omega
theorem l02Sum_c (r : Reach) (hv : amount r.Volume = true) (hl : r.Pipe.length ≤ 12) (hp : ∀ n ∈ r.Pipe, amount n = true) : PureF Try.prog n_spec_l02Sum [.agg (r.enc.map .c)] (.c (.i (l02Sum r))) := by
  refine pure_of h_spec_l02Sum (by simp) fun hwf => ?_
  have hv' := inRange_iff.1 (show inRange r.Volume 0 1000000000 = true from hv)
  simp -dsimp -implicitDefEqProofs [c_spec_l02Sum]
  refine loop_rule (ι := Nat) (fun k => k ≤ r.Pipe.length) (fun k => stOf [(1, .box 1 0), (3, .c (.i (r.Volume + sumTo r.Pipe k))), (4, .c (.i k))] [(1, .box (r.enc.map .c))]) (fun k => r.Pipe.length - k) 0 (by simp) (by apply le_of <;> simp [AV.refs1, AV.ref0, Obj.refs1, sumTo_zero]) ?_
  rintro k hk
  rcases Nat.lt_or_ge k r.Pipe.length with hlt | hge
  · obtain ⟨x, hx⟩ : ∃ x, r.Pipe[k]? = some x := ⟨_, List.getElem?_eq_getElem hlt⟩
    have e1 := sumTo_succ hx
    have b1 := sumTo_bound hp hl (k + 1)
    rw [e1] at b1
    simp -dsimp -implicitDefEqProofs [hx, lt_t hlt]
    intro hlen
    refine ⟨by unfold inI; omega, inI_succ hlt hlen, k + 1, hlt, by omega, ?_⟩
    apply le_of <;> simp [AV.refs1, AV.ref0, Obj.refs1, e1]; omega
  · simp -dsimp -implicitDefEqProofs [lt_f hge]
    intro _
    rw [sumTo_all hge]; rfl
theorem ReachOk_spec (r : Reach) : PureF Try.prog n_spec_ReachOk [.agg (r.enc.map .c)] (.c (.b (ReachOk r))) := by
  refine pure_of h_spec_ReachOk (by simp) fun hwf => ?_
  simp -dsimp -implicitDefEqProofs [c_spec_ReachOk]
  refine call_lend (TableOk_spec r.Table) (by simp) rfl ?_
  simp -dsimp -implicitDefEqProofs
  refine ⟨fun h1 => ?_, fun h1 => by simp [ReachOk, h1]⟩
  refine call_lend (inRange_spec r.Volume 0 1000000000) (by simp) rfl ?_
  simp -dsimp -implicitDefEqProofs
  refine ⟨fun h2 hlen => ⟨fun h3 => ?_, fun h3 => ?_⟩, fun h2 => by simp [ReachOk, amount, h2]⟩
  · have : ¬ r.Pipe.length ≤ 12 := by omega
    simp [ReachOk, this]
  refine loop_rule (ι := Nat) (fun k => k ≤ r.Pipe.length ∧ (∀ n ∈ r.Pipe.take k, amount n = true)) (fun k => stOf [(1, .box 1 0), (3, .c (.i k))] [(1, .box (r.enc.map .c))]) (fun k => r.Pipe.length - k) 0 ⟨by simp, by simp⟩ (by apply le_of <;> simp [AV.refs1, AV.ref0, Obj.refs1]) ?_
  rintro k ⟨hk, hall⟩
  rcases Nat.lt_or_ge k r.Pipe.length with hlt | hge
  · obtain ⟨x, hx⟩ : ∃ x, r.Pipe[k]? = some x := ⟨_, List.getElem?_eq_getElem hlt⟩
    simp -dsimp -implicitDefEqProofs [hx, lt_t hlt]
    intro _
    refine call_lend (inRange_spec x 0 1000000000) (by simp) rfl ?_
    simp -dsimp -implicitDefEqProofs
    refine ⟨fun h4 => rf_amount hx h4, fun h4 => ?_⟩
    exact ⟨inI_succ hlt hlen, k + 1, ⟨hlt, all_take_succ (p := amount) hx hall h4⟩, by omega, by apply le_of <;> simp [AV.refs1, AV.ref0, Obj.refs1]⟩
  · simp -dsimp -implicitDefEqProofs [lt_f hge]
    intro _
    have h6 := all_of_take (p := amount) hge hall
    refine call_lend (l02Sum_c r h2 (by omega) (List.all_eq_true.1 h6)) (by simp) rfl ?_
    simp -dsimp -implicitDefEqProofs
    have h3' : r.Pipe.length ≤ 12 := by omega
    simp [ReachOk, h1, show amount r.Volume = true from h2, h6, h3']
theorem tw_next {α : Type} {p : α → Bool} : ∀ {l : List α} {k : Nat} {q : α}, k ≤ (l.takeWhile p).length → l[k]? = some q → p q = true → k + 1 ≤ (l.takeWhile p).length
  | [], k, q, _, h, _ => by simp at h
  | x :: l, 0, q, _, h, hq => by
    simp at h; subst h
    simp [List.takeWhile_cons, hq]
  | x :: l, k + 1, q, hk, h, hq => by
    rw [List.takeWhile_cons] at hk ⊢
    split at hk
    · rename_i hx
      rw [if_pos hx]
      have := tw_next (l := l) (k := k) (by simpa using hk) (by simpa using h) hq
      simp only [List.length_cons]; omega
    · simp at hk
theorem tw_stop {α : Type} {p : α → Bool} : ∀ {l : List α} {k : Nat} {q : α}, k ≤ (l.takeWhile p).length → l[k]? = some q → p q = false → (l.takeWhile p).length = k
  | [], k, q, _, h, _ => by simp at h
  | x :: l, 0, q, _, h, hq => by
    simp at h; subst h
    simp [List.takeWhile_cons, hq]
  | x :: l, k + 1, q, hk, h, hq => by
    rw [List.takeWhile_cons] at hk ⊢
    split at hk
    · rename_i hx
      rw [if_pos hx]
      have := tw_stop (l := l) (k := k) (by simpa using hk) (by simpa using h) hq
      simp only [List.length_cons]; omega
    · simp at hk
/-- The piece of the table in which x lies. -/
def seg (l : List Point) (x : Int) : Nat := (l.tail.takeWhile fun q => decide (q.X ≤ x)).length
theorem seg_next {l : List Point} {x : Int} {k : Nat} {q : Point} (hk : k ≤ seg l x) (hq : l[k + 1]? = some q) (h : q.X ≤ x) : k + 1 ≤ seg l x :=
  tw_next hk (by rw [List.getElem?_tail]; exact hq) (by simp [h])
theorem seg_stop {l : List Point} {x : Int} {k : Nat} {q : Point} (hk : k ≤ seg l x) (hq : l[k + 1]? = some q) (h : x < q.X) : seg l x = k :=
  tw_stop hk (by rw [List.getElem?_tail]; exact hq) (by simp; omega)
theorem upTo_all {l : List Point} : ∀ {n k : Nat}, upTo l n = true → k < n → stepOk l k = true
  | 0, k, _, h => by omega
  | n + 1, k, h, hk => by
    simp only [upTo, Bool.and_eq_true] at h
    rcases Nat.lt_or_ge k n with h1 | h1
    · exact upTo_all h.1 h1
    · have : k = n := by omega
      subst this; exact h.2
structure TableFacts (l : List Point) : Prop where
  len : 2 ≤ l.length ∧ l.length ≤ 20
  pt : ∀ (k : Nat) (p : Point), l[k]? = some p → (0 ≤ p.X ∧ p.X ≤ 1000000000) ∧ (0 ≤ p.Y ∧ p.Y ≤ 1000000000)
  up : ∀ (k : Nat) (p q : Point), l[k]? = some p → l[k + 1]? = some q → p.X < q.X ∧ p.Y ≤ q.Y
theorem tableFacts {l : List Point} (h : TableOk l = true) : TableFacts l := by
  simp only [TableOk, Bool.and_eq_true] at h
  obtain ⟨h1, h2⟩ := h
  have h3 := inRange_iff.1 h2
  refine ⟨by omega, fun k p hp => ?_, fun k p q hp hq => ?_⟩
  · have hk := (List.getElem?_eq_some_iff.1 hp).1
    have hs := upTo_all h1 hk
    have : ptOk p = true := by
      cases k with
      | zero => rw [step_zero hp] at hs; exact hs
      | succ j =>
        rw [step_succ hp (List.getElem?_eq_getElem (by omega)), Bool.and_eq_true] at hs
        exact hs.1
    simp only [ptOk, Bool.and_eq_true] at this
    exact ⟨inRange_iff.1 this.1, inRange_iff.1 this.2⟩
  · have hk := (List.getElem?_eq_some_iff.1 hq).1
    have hs := upTo_all h1 hk
    rw [step_succ hq hp, Bool.and_eq_true] at hs
    have := hs.2
    simpa [follows] using this
def valAt (p q : Point) (x : Int) : Int := p.Y + ((x - p.X) * (q.Y - p.Y)).tdiv (q.X - p.X)
def ptAt (l : List Point) (k : Nat) : Point := l[k]?.getD default
theorem ptAt_eq {l : List Point} {k : Nat} {p : Point} (h : l[k]? = some p) : ptAt l k = p := by simp [ptAt, h]
def ValueAt (l : List Point) (x : Int) : Int :=
  if TableOk l then if x ≤ (ptAt l 0).X then (ptAt l 0).Y else if (ptAt l (l.length - 1)).X ≤ x then (ptAt l (l.length - 1)).Y else valAt (ptAt l (seg l x)) (ptAt l (seg l x + 1)) x
  else 0
theorem valAt_in {l : List Point} (tf : TableFacts l) {k : Nat} {p q : Point} (hp : l[k]? = some p) (hq : l[k + 1]? = some q) {x v : Int} (hx : p.X ≤ x) (h4 : x < q.X) (hv : v = p.Y + ((x - p.X) * (q.Y - p.Y)).tdiv (q.X - p.X)) :
    inI (x - p.X) ∧ inI (q.Y - p.Y) ∧ inI ((x - p.X) * (q.Y - p.Y)) ∧ inI (q.X - p.X) ∧ ¬q.X - p.X = 0 ∧ inI (((x - p.X) * (q.Y - p.Y)).tdiv (q.X - p.X)) ∧ inI (p.Y + ((x - p.X) * (q.Y - p.Y)).tdiv (q.X - p.X)) ∧ v = p.Y + ((x - p.X) * (q.Y - p.Y)).tdiv (q.X - p.X) := by
  have b1 := tf.pt k p hp
  have b2 := tf.pt (k + 1) q hq
  have b3 := tf.up k p q hp hq
  have c1 : 0 ≤ (x - p.X) * (q.Y - p.Y) := Int.mul_nonneg (by omega) (by omega)
  have c2 : (x - p.X) * (q.Y - p.Y) ≤ 1000000000 * 1000000000 := Int.mul_le_mul (by omega) (by omega) (by omega) (by omega)
  have c3 : ((x - p.X) * (q.Y - p.Y)).tdiv (q.X - p.X) = ((x - p.X) * (q.Y - p.Y)) / (q.X - p.X) := Int.tdiv_eq_ediv_of_nonneg c1
  have c4 : 0 ≤ ((x - p.X) * (q.Y - p.Y)) / (q.X - p.X) := Int.ediv_nonneg c1 (by omega)
  have c5 : ((x - p.X) * (q.Y - p.Y)) / (q.X - p.X) ≤ (x - p.X) * (q.Y - p.Y) := Int.ediv_le_self _ c1
  refine ⟨by unfold inI; omega, by unfold inI; omega, by unfold inI; omega, by unfold inI; omega, by omega, ?_, ?_, hv⟩
  · rw [c3]; unfold inI; omega
  · rw [c3]; unfold inI; omega
theorem ValueAt_impl (l : List Point) (x : Int) : PureF Try.prog n_impl_ValueAt [.c (.sl 2 (l.map Point.enc)), .c (.i x)] (.c (.i (ValueAt l x))) := by
  refine pure_of h_impl_ValueAt (by simp) fun hwf => ?_
  simp -dsimp -implicitDefEqProofs [c_impl_ValueAt]
  refine call_lend (TableOk_impl l) (by simp) rfl ?_
  cases h1 : TableOk l with
  | false =>
    simp -dsimp -implicitDefEqProofs
    simp [ValueAt, h1]
  | true =>
    have tf := tableFacts h1
    obtain ⟨hl1, hl2⟩ := tf.len
    obtain ⟨p0, e0⟩ : ∃ p, l[0]? = some p := ⟨_, List.getElem?_eq_getElem (by omega)⟩
    obtain ⟨pe, ee⟩ : ∃ p, l[l.length - 1]? = some p := ⟨_, List.getElem?_eq_getElem (by omega)⟩
    have f0 := (List.getElem?_eq_some_iff.1 e0).2
    have l0 : 0 < l.length := by omega
    have l1 : (1 : Int) ≤ l.length := by omega
    have l2 : (l.length : Int) - 1 < l.length := by omega
    have l3 : inI ((l.length : Int) - 1) := by unfold inI; omega
    simp -dsimp -implicitDefEqProofs [e0, ee, f0, l0, l1, l2, l3]
    have a0 : ptAt l 0 = p0 := ptAt_eq e0
    have ae : ptAt l (l.length - 1) = pe := ptAt_eq ee
    refine fun _ => ⟨fun h2 => by simp [ValueAt, h1, a0, h2], fun h2 => ⟨fun h3 => ?_, fun h3 => ?_⟩⟩
    · have : ¬ x ≤ p0.X := by omega
      simp [ValueAt, h1, a0, ae, this, h3]
    have hv : ValueAt l x = valAt (ptAt l (seg l x)) (ptAt l (seg l x + 1)) x := by
      have g1 : ¬ x ≤ p0.X := by omega
      have g2 : ¬ pe.X ≤ x := by omega
      simp [ValueAt, h1, a0, ae, g1, g2]
    refine loop_rule (ι := Nat) (fun k => k + 2 ≤ l.length ∧ k ≤ seg l x ∧ (ptAt l k).X ≤ x) (fun k => stOf [(0, .c (.sl 2 (l.map Point.enc))), (1, .c (.i x)), (6, .c (.i k))] []) (fun k => l.length - k) 0 ⟨hl1, Nat.zero_le _, by rw [a0]; omega⟩ (by apply le_of <;> simp [AV.refs1, AV.ref0, Obj.refs1]) ?_
    rintro k ⟨hk, hs, hx⟩
    obtain ⟨p, hp⟩ : ∃ p, l[k]? = some p := ⟨_, List.getElem?_eq_getElem (by omega)⟩
    obtain ⟨q, hq⟩ : ∃ p, l[k + 1]? = some p := ⟨_, List.getElem?_eq_getElem (by omega)⟩
    rw [ptAt_eq hp] at hx
    have i1 : (k : Int) + 1 < l.length := by omega
    have i2 : (k : Int) < l.length := by omega
    have i3 : (0 : Int) ≤ k + 1 := by omega
    have i4 : ((k : Int) + 1).toNat = k + 1 := by omega
    have i5 : inI ((k : Int) + 1) := by unfold inI; omega
    simp -dsimp -implicitDefEqProofs [hp, hq, i1, i2, i3, i4, i5]
    refine ⟨fun h4 => ⟨k + 1, ⟨?_, seg_next hs hq h4, by rw [ptAt_eq hq]; exact h4⟩, by omega, by apply le_of <;> simp [AV.refs1, AV.ref0, Obj.refs1]⟩, fun h4 => ?_⟩
    · rcases Nat.lt_or_ge (k + 2) l.length with g | g
      · omega
      · have e : l.length - 1 = k + 1 := by omega
        rw [e, hq] at ee
        cases ee
        omega
    · exact valAt_in tf hp hq hx h4 (by rw [hv, seg_stop hs hq h4, ptAt_eq hp, ptAt_eq hq]; rfl)
theorem ValueAt_spec (l : List Point) (x : Int) : PureF Try.prog n_spec_ValueAt [.c (.sl 2 (l.map Point.enc)), .c (.i x)] (.c (.i (ValueAt l x))) := by
  refine pure_of h_spec_ValueAt (by simp) fun hwf => ?_
  simp -dsimp -implicitDefEqProofs [c_spec_ValueAt]
  refine call_lend (TableOk_spec l) (by simp) rfl ?_
  cases h1 : TableOk l with
  | false =>
    simp -dsimp -implicitDefEqProofs
    simp [ValueAt, h1]
  | true =>
    have tf := tableFacts h1
    obtain ⟨hl1, hl2⟩ := tf.len
    obtain ⟨p0, e0⟩ : ∃ p, l[0]? = some p := ⟨_, List.getElem?_eq_getElem (by omega)⟩
    obtain ⟨pe, ee⟩ : ∃ p, l[l.length - 1]? = some p := ⟨_, List.getElem?_eq_getElem (by omega)⟩
    have f0 := (List.getElem?_eq_some_iff.1 e0).2
    have l0 : 0 < l.length := by omega
    have l1 : (1 : Int) ≤ l.length := by omega
    have l2 : (l.length : Int) - 1 < l.length := by omega
    have l3 : inI ((l.length : Int) - 1) := by unfold inI; omega
    simp -dsimp -implicitDefEqProofs [e0, ee, f0, l0, l1, l2, l3]
    have a0 : ptAt l 0 = p0 := ptAt_eq e0
    have ae : ptAt l (l.length - 1) = pe := ptAt_eq ee
    refine fun _ => ⟨fun h2 => by simp [ValueAt, h1, a0, h2], fun h2 => ⟨fun h3 => ?_, fun h3 => ?_⟩⟩
    · have : ¬ x ≤ p0.X := by omega
      simp [ValueAt, h1, a0, ae, this, h3]
    have hv : ValueAt l x = valAt (ptAt l (seg l x)) (ptAt l (seg l x + 1)) x := by
      have g1 : ¬ x ≤ p0.X := by omega
      have g2 : ¬ pe.X ≤ x := by omega
      simp [ValueAt, h1, a0, ae, g1, g2]
    refine loop_rule (ι := Nat) (fun k => k + 2 ≤ l.length ∧ k ≤ seg l x ∧ (ptAt l k).X ≤ x) (fun k => stOf [(0, .c (.sl 2 (l.map Point.enc))), (1, .c (.i x)), (6, .c (.i k))] []) (fun k => l.length - k) 0 ⟨hl1, Nat.zero_le _, by rw [a0]; omega⟩ (by apply le_of <;> simp [AV.refs1, AV.ref0, Obj.refs1]) ?_
    rintro k ⟨hk, hs, hx⟩
    obtain ⟨p, hp⟩ : ∃ p, l[k]? = some p := ⟨_, List.getElem?_eq_getElem (by omega)⟩
    obtain ⟨q, hq⟩ : ∃ p, l[k + 1]? = some p := ⟨_, List.getElem?_eq_getElem (by omega)⟩
    rw [ptAt_eq hp] at hx
    have i1 : (k : Int) + 1 < l.length := by omega
    have i2 : (k : Int) < l.length := by omega
    have i3 : (0 : Int) ≤ k + 1 := by omega
    have i4 : ((k : Int) + 1).toNat = k + 1 := by omega
    have i5 : inI ((k : Int) + 1) := by unfold inI; omega
    simp -dsimp -implicitDefEqProofs [hp, hq, i1, i2, i3, i4, i5]
    refine ⟨fun h4 => ⟨k + 1, ⟨?_, seg_next hs hq h4, by rw [ptAt_eq hq]; exact h4⟩, by omega, by apply le_of <;> simp [AV.refs1, AV.ref0, Obj.refs1]⟩, fun h4 => ?_⟩
    · rcases Nat.lt_or_ge (k + 2) l.length with g | g
      · omega
      · have e : l.length - 1 = k + 1 := by omega
        rw [e, hq] at ee
        cases ee
        omega
    · exact valAt_in tf hp hq hx h4 (by rw [hv, seg_stop hs hq h4, ptAt_eq hp, ptAt_eq hq]; rfl)
def least (f : Int → Bool) (lo : Int) : Nat → Int
  | 0 => lo
  | n + 1 => if f lo then lo else least f (lo + 1) n
theorem least_eq {f : Int → Bool} : ∀ {n : Nat} {lo p : Int}, lo ≤ p → p ≤ lo + n → f p = true → (∀ z, lo ≤ z → z < p → f z = false) → least f lo n = p
  | 0, lo, p, h1, h2, h3, h4 => by simp only [least]; omega
  | n + 1, lo, p, h1, h2, h3, h4 => by
    simp only [least]
    by_cases e : lo = p
    · subst e; rw [if_pos h3]
    · rw [if_neg (by rw [h4 lo (Int.le_refl _) (by omega)]; simp)]
      exact least_eq (by omega) (by omega) h3 fun z hz1 hz2 => h4 z (by omega) hz2
theorem tdiv_mono {a b d : Int} (ha : 0 ≤ a) (hab : a ≤ b) (hd : 0 < d) : a.tdiv d ≤ b.tdiv d := by
  rw [Int.tdiv_eq_ediv_of_nonneg ha, Int.tdiv_eq_ediv_of_nonneg (by omega)]
  exact Int.ediv_le_ediv hd hab
theorem valAt_mono {l : List Point} (tf : TableFacts l) {k : Nat} {p q : Point} (hp : l[k]? = some p) (hq : l[k + 1]? = some q) {x y : Int} (hx : p.X ≤ x) (hxy : x ≤ y) : valAt p q x ≤ valAt p q y := by
  have b3 := tf.up k p q hp hq
  unfold valAt
  have c1 : 0 ≤ (x - p.X) * (q.Y - p.Y) := Int.mul_nonneg (by omega) (by omega)
  have c2 : (x - p.X) * (q.Y - p.Y) ≤ (y - p.X) * (q.Y - p.Y) := Int.mul_le_mul_of_nonneg_right (by omega) (by omega)
  have := tdiv_mono c1 c2 (show 0 < q.X - p.X by omega)
  omega
theorem valAt_ends {l : List Point} (tf : TableFacts l) {k : Nat} {p q : Point} (hp : l[k]? = some p) (hq : l[k + 1]? = some q) : valAt p q p.X = p.Y ∧ valAt p q q.X = q.Y := by
  have b3 := tf.up k p q hp hq
  unfold valAt
  refine ⟨by simp, ?_⟩
  rw [Int.mul_tdiv_cancel_left _ (by omega)]
  omega
theorem tw_all {α : Type} {p : α → Bool} : ∀ {l : List α} {i : Nat} {q : α}, i < (l.takeWhile p).length → l[i]? = some q → p q = true
  | [], i, q, h, _ => by simp at h
  | x :: l, i, q, h, hq => by
    rw [List.takeWhile_cons] at h
    split at h
    · rename_i hx
      cases i with
      | zero => simp at hq; subst hq; exact hx
      | succ i => exact tw_all (l := l) (i := i) (by simpa using h) (by simpa using hq)
    · simp at h
theorem tw_end {α : Type} {p : α → Bool} : ∀ {l : List α} {q : α}, l[(l.takeWhile p).length]? = some q → p q = false
  | [], q, h => by simp at h
  | x :: l, q, h => by
    rw [List.takeWhile_cons] at h
    split at h
    · exact tw_end (l := l) (by simpa using h)
    · rename_i hx
      simp at h; subst h; simpa using hx
theorem table_le {l : List Point} (tf : TableFacts l) : ∀ {j i : Nat} {p q : Point}, i ≤ j → l[i]? = some p → l[j]? = some q → p.X ≤ q.X ∧ p.Y ≤ q.Y
  | 0, i, p, q, h, hp, hq => by
    have : i = 0 := by omega
    subst this; rw [hp] at hq; cases hq; omega
  | j + 1, i, p, q, h, hp, hq => by
    rcases Nat.lt_or_ge j i with h1 | h1
    · have : i = j + 1 := by omega
      subst this; rw [hp] at hq; cases hq; omega
    · have hj := (List.getElem?_eq_some_iff.1 hq).1
      obtain ⟨r, hr⟩ : ∃ r, l[j]? = some r := ⟨_, List.getElem?_eq_getElem (by omega)⟩
      have e1 := table_le tf h1 hp hr
      have e2 := tf.up j r q hr hq
      omega
theorem seg_at {l : List Point} (tf : TableFacts l) {x : Int} (h0 : (ptAt l 0).X ≤ x) (h1 : x < (ptAt l (l.length - 1)).X) : ∃ p q, l[seg l x]? = some p ∧ l[seg l x + 1]? = some q ∧ p.X ≤ x ∧ x < q.X := by
  obtain ⟨hl1, hl2⟩ := tf.len
  have hlen : seg l x ≤ l.length - 1 := by
    unfold seg
    have := (List.takeWhile_sublist (fun q : Point => decide (q.X ≤ x)) (l := l.tail)).length_le
    simpa using this
  obtain ⟨e, he⟩ : ∃ e, l[l.length - 1]? = some e := ⟨_, List.getElem?_eq_getElem (by omega)⟩
  rw [ptAt_eq he] at h1
  have hp : ∀ p, l[seg l x]? = some p → p.X ≤ x := by
    intro p hp
    cases hs : seg l x with
    | zero => rw [hs] at hp; rw [ptAt_eq hp] at h0; exact h0
    | succ j =>
      rw [hs] at hp
      have := tw_all (p := fun q : Point => decide (q.X ≤ x)) (l := l.tail) (i := j) (q := p) (by show j < seg l x; omega) (by rw [List.getElem?_tail]; exact hp)
      simpa using this
  have hlt : seg l x < l.length - 1 := by
    rcases Nat.lt_or_ge (seg l x) (l.length - 1) with h | h
    · exact h
    · have e1 : seg l x = l.length - 1 := by omega
      have := hp e (by rw [e1]; exact he)
      omega
  obtain ⟨p, hp'⟩ : ∃ p, l[seg l x]? = some p := ⟨_, List.getElem?_eq_getElem (by omega)⟩
  obtain ⟨q, hq'⟩ : ∃ p, l[seg l x + 1]? = some p := ⟨_, List.getElem?_eq_getElem (by omega)⟩
  refine ⟨p, q, hp', hq', hp p hp', ?_⟩
  have := tw_end (p := fun q : Point => decide (q.X ≤ x)) (l := l.tail) (q := q) (by rw [List.getElem?_tail]; exact hq')
  simp at this
  omega
theorem ValueAt_seg {l : List Point} (h : TableOk l = true) {x : Int} (h0 : (ptAt l 0).X < x) (h1 : x < (ptAt l (l.length - 1)).X) : ValueAt l x = valAt (ptAt l (seg l x)) (ptAt l (seg l x + 1)) x := by
  have g1 : ¬ x ≤ (ptAt l 0).X := by omega
  have g2 : ¬ (ptAt l (l.length - 1)).X ≤ x := by omega
  simp [ValueAt, h, g1, g2]
theorem ValueAt_lo {l : List Point} (h : TableOk l = true) {x : Int} (h0 : x ≤ (ptAt l 0).X) : ValueAt l x = (ptAt l 0).Y := by simp [ValueAt, h, h0]
theorem ValueAt_hi {l : List Point} (h : TableOk l = true) {x : Int} (h1 : (ptAt l (l.length - 1)).X ≤ x) : ValueAt l x = (ptAt l (l.length - 1)).Y := by
  have tf := tableFacts h
  obtain ⟨hl1, hl2⟩ := tf.len
  obtain ⟨e, he⟩ : ∃ e, l[l.length - 1]? = some e := ⟨_, List.getElem?_eq_getElem (by omega)⟩
  obtain ⟨p, hp⟩ : ∃ e, l[0]? = some e := ⟨_, List.getElem?_eq_getElem (by omega)⟩
  obtain ⟨q, hq⟩ : ∃ e, l[1]? = some e := ⟨_, List.getElem?_eq_getElem (by omega)⟩
  have e1 := tf.up 0 p q hp hq
  have e2 := table_le tf (show 1 ≤ l.length - 1 by omega) hq he
  have g1 : ¬ x ≤ (ptAt l 0).X := by rw [ptAt_eq hp]; rw [ptAt_eq he] at h1; omega
  simp [ValueAt, h, g1, h1]
theorem ValueAt_mid {l : List Point} (h : TableOk l = true) {x : Int} (h0 : (ptAt l 0).X < x) (h1 : x < (ptAt l (l.length - 1)).X) :
    ∃ p q, l[seg l x]? = some p ∧ l[seg l x + 1]? = some q ∧ p.X ≤ x ∧ x < q.X ∧ ValueAt l x = valAt p q x ∧ p.Y ≤ ValueAt l x ∧ ValueAt l x ≤ q.Y := by
  have tf := tableFacts h
  obtain ⟨p, q, e1, e2, e3, e4⟩ := seg_at tf (Int.le_of_lt h0) h1
  have hv := ValueAt_seg h h0 h1
  rw [ptAt_eq e1, ptAt_eq e2] at hv
  have hen := valAt_ends tf e1 e2
  have m1 := valAt_mono tf e1 e2 (Int.le_refl _) e3
  have m2 := valAt_mono tf e1 e2 e3 (Int.le_of_lt e4)
  exact ⟨p, q, e1, e2, e3, e4, hv, by rw [hv]; omega, by rw [hv]; omega⟩
theorem seg_mono {l : List Point} (tf : TableFacts l) {x y : Int} (hxy : x ≤ y) {p q : Point} (hp : l[seg l x]? = some p) (hx : p.X ≤ x) (hq : l[seg l y + 1]? = some q) (hy : y < q.X) : seg l x ≤ seg l y := by
  rcases Nat.lt_or_ge (seg l y) (seg l x) with h | h
  · have := table_le tf (show seg l y + 1 ≤ seg l x by omega) hq hp
    omega
  · exact h
theorem ValueAt_mono {l : List Point} (h : TableOk l = true) {x y : Int} (hxy : x ≤ y) : ValueAt l x ≤ ValueAt l y := by
  have tf := tableFacts h
  obtain ⟨hl1, hl2⟩ := tf.len
  obtain ⟨e, he⟩ : ∃ e, l[l.length - 1]? = some e := ⟨_, List.getElem?_eq_getElem (by omega)⟩
  obtain ⟨f, hf⟩ : ∃ e, l[0]? = some e := ⟨_, List.getElem?_eq_getElem (by omega)⟩
  have hfe := table_le tf (Nat.zero_le _) hf he
  rcases Int.lt_or_le (ptAt l 0).X y with hy | hy
  · rcases Int.lt_or_le y (ptAt l (l.length - 1)).X with hy2 | hy2
    · obtain ⟨p', q', a1, a2, a3, a4, a5, a6, a7⟩ := ValueAt_mid h hy hy2
      rcases Int.lt_or_le (ptAt l 0).X x with hx | hx
      · obtain ⟨p, q, b1, b2, b3, b4, b5, b6, b7⟩ := ValueAt_mid h hx (by omega)
        have hs := seg_mono tf hxy b1 b3 a2 a4
        rcases Nat.lt_or_ge (seg l x) (seg l y) with hlt | hge
        · have := table_le tf (show seg l x + 1 ≤ seg l y by omega) b2 a1
          omega
        · have e1 : seg l x = seg l y := by omega
          rw [e1] at b1 b2
          rw [b1] at a1; cases a1
          rw [b2] at a2; cases a2
          rw [a5, b5]
          exact valAt_mono tf b1 b2 b3 hxy
      · rw [ValueAt_lo h hx, ptAt_eq hf]
        have := table_le tf (Nat.zero_le _) hf a1
        omega
    · rw [ValueAt_hi h hy2, ptAt_eq he]
      rcases Int.lt_or_le (ptAt l 0).X x with hx | hx
      · rcases Int.lt_or_le x (ptAt l (l.length - 1)).X with hx2 | hx2
        · obtain ⟨p, q, b1, b2, b3, b4, b5, b6, b7⟩ := ValueAt_mid h hx hx2
          have hk := (List.getElem?_eq_some_iff.1 b2).1
          have := table_le tf (show seg l x + 1 ≤ l.length - 1 by omega) b2 he
          omega
        · rw [ValueAt_hi h hx2, ptAt_eq he]; omega
      · rw [ValueAt_lo h hx, ptAt_eq hf]; omega
  · rw [ValueAt_lo h hy, ValueAt_lo h (by omega)]; omega
def PlaceOf (l : List Point) (y : Int) : Int × Bool :=
  if TableOk l = true ∧ y ≤ (ptAt l (l.length - 1)).Y then (least (fun z => decide (y ≤ ValueAt l z)) (ptAt l 0).X ((ptAt l (l.length - 1)).X - (ptAt l 0).X).toNat, true) else (0, false)
theorem PlaceOf_no {l : List Point} {y : Int} (h : TableOk l = false) : PlaceOf l y = (0, false) := by simp [PlaceOf, h]
theorem PlaceOf_no2 {l : List Point} {y : Int} (h : (ptAt l (l.length - 1)).Y < y) : PlaceOf l y = (0, false) := by
  have : ¬ y ≤ (ptAt l (l.length - 1)).Y := by omega
  simp [PlaceOf, this]
theorem PlaceOf_is {l : List Point} {y p : Int} (h : TableOk l = true) (hy : y ≤ (ptAt l (l.length - 1)).Y) (h0 : (ptAt l 0).X ≤ p) (h1 : p ≤ (ptAt l (l.length - 1)).X) (hp : y ≤ ValueAt l p) (hz : ∀ z, (ptAt l 0).X ≤ z → z < p → ValueAt l z < y) : PlaceOf l y = (p, true) := by
  simp only [PlaceOf, h, hy, and_self, if_true]
  rw [least_eq (p := p) h0 (by omega) (by simp [hp]) fun z z1 z2 => by have := hz z z1 z2; simp; omega]
/-- What one knows of a table's ends. -/
theorem table_ends {l : List Point} (h1 : TableOk l = true) : ∃ p0 pe, l[0]? = some p0 ∧ l[l.length - 1]? = some pe ∧ ptAt l 0 = p0 ∧ ptAt l (l.length - 1) = pe ∧ 0 ≤ p0.X ∧ p0.X ≤ pe.X ∧ pe.X ≤ 1000000000 ∧ 2 ≤ l.length ∧ l.length ≤ 20 ∧ 0 ≤ pe.Y ∧ pe.Y ≤ 1000000000 := by
  have tf := tableFacts h1
  obtain ⟨hl1, hl2⟩ := tf.len
  obtain ⟨p0, e0⟩ : ∃ p, l[0]? = some p := ⟨_, List.getElem?_eq_getElem (by omega)⟩
  obtain ⟨pe, ee⟩ : ∃ p, l[l.length - 1]? = some p := ⟨_, List.getElem?_eq_getElem (by omega)⟩
  have b1 := tf.pt _ _ e0
  have b2 := tf.pt _ _ ee
  have b3 := table_le tf (Nat.zero_le _) e0 ee
  exact ⟨p0, pe, e0, ee, ptAt_eq e0, ptAt_eq ee, b1.1.1, b3.1, b2.1.2, hl1, hl2, b2.2.1, b2.2.2⟩
theorem PlaceOf_impl (l : List Point) (y : Int) : PureF Try.prog n_impl_PlaceOf [.c (.sl 2 (l.map Point.enc)), .c (.i y)] (.tup [.c (.i (PlaceOf l y).1), .c (.b (PlaceOf l y).2)]) := by
  refine pure_of h_impl_PlaceOf (by simp) fun hwf => ?_
  simp -dsimp -implicitDefEqProofs [c_impl_PlaceOf]
  refine call_lend (TableOk_impl l) (by simp) rfl ?_
  cases h1 : TableOk l with
  | false =>
    simp -dsimp -implicitDefEqProofs
    simp [PlaceOf_no h1]
  | true =>
    obtain ⟨p0, pe, e0, ee, a0, ae, b1, b2, b3, hl1, hl2, b4, b5⟩ := table_ends h1
    have f0 := (List.getElem?_eq_some_iff.1 e0).2
    have l0 : 0 < l.length := by omega
    have l1 : (1 : Int) ≤ l.length := by omega
    have l2 : (l.length : Int) - 1 < l.length := by omega
    have l3 : inI ((l.length : Int) - 1) := by unfold inI; omega
    simp -dsimp -implicitDefEqProofs [e0, ee, f0, l0, l1, l2, l3]
    refine fun _ => ⟨fun h2 => ?_, fun h2 _ => ?_⟩
    · simp [PlaceOf_no2 (show (ptAt l (l.length - 1)).Y < y by rw [ae]; exact h2)]
    have hy : y ≤ (ptAt l (l.length - 1)).Y := by rw [ae]; omega
    have he : y ≤ ValueAt l pe.X := by rw [ValueAt_hi h1 (by rw [ae]; exact Int.le_refl _), ae]; rw [ae] at hy; exact hy
    have hz : ∀ z, p0.X ≤ z → z < p0.X → ValueAt l z < y := fun z z1 z2 => absurd z2 (by omega)
    have hz' : ∀ z, p0.X ≤ z → z ≤ p0.X - 1 → ValueAt l z < y := fun z z1 z2 => absurd z2 (by omega)
    refine loop_rule (ι := Int × Int) (fun p => p0.X ≤ p.1 ∧ p.1 ≤ p.2 ∧ p.2 ≤ pe.X ∧ y ≤ ValueAt l p.2 ∧ ∀ z, p0.X ≤ z → z < p.1 → ValueAt l z < y) (fun p => stOf [(0, .c (.sl 2 (l.map Point.enc))), (1, .c (.i y)), (6, .c (.i p.1)), (7, .c (.i p.2))] []) (fun p => (p.2 - p.1).toNat) (p0.X, pe.X) ⟨Int.le_refl _, b2, Int.le_refl _, he, hz⟩ (by apply le_of <;> simp [AV.refs1, AV.ref0, Obj.refs1]) ?_
    rintro ⟨lo, hi⟩ ⟨c1, c2, c3, c4, c5⟩
    simp only at c1 c2 c3 c4 c5
    have hq : (lo + hi).tdiv 2 = (lo + hi) / 2 := Int.tdiv_eq_ediv_of_nonneg (by omega)
    simp -dsimp -implicitDefEqProofs
    refine ⟨fun h4 => ⟨by unfold inI; omega, by rw [hq]; unfold inI; omega, ?_⟩, fun h4 => ?_⟩
    · refine call_lend (ValueAt_impl l ((lo + hi).tdiv 2)) (by simp) rfl ?_
      simp -dsimp -implicitDefEqProofs
      rw [hq]
      refine ⟨fun h5 => ?_, fun h5 => ?_⟩
      · exact ⟨lo, (lo + hi) / 2, ⟨c1, by omega, by omega, h5, c5⟩, by omega, by apply le_of <;> simp [AV.refs1, AV.ref0, Obj.refs1]⟩
      · refine ⟨by unfold inI; omega, (lo + hi) / 2 + 1, hi, ⟨by omega, by omega, c3, c4, fun z z1 z2 => ?_⟩, by omega, by apply le_of <;> simp [AV.refs1, AV.ref0, Obj.refs1]⟩
        have := ValueAt_mono h1 (show z ≤ (lo + hi) / 2 by omega)
        omega
    · have e : hi = lo := by omega
      subst e
      rw [PlaceOf_is h1 hy (by rw [a0]; exact c1) (by rw [ae]; exact c3) c4 (by rw [a0]; exact c5)]
      simp
theorem PlaceOf_val {l : List Point} {y : Int} (h : (PlaceOf l y).2 = true) : TableOk l = true ∧ 0 ≤ (PlaceOf l y).1 ∧ (PlaceOf l y).1 ≤ 1000000000 := by
  unfold PlaceOf at h ⊢
  split at h
  · rename_i hh
    obtain ⟨p0, pe, e0, ee, a0, ae, b1, b2, b3, hl1, hl2, b4, b5⟩ := table_ends hh.1
    rw [if_pos hh]
    have : ∀ (f : Int → Bool) (n : Nat) (lo : Int), lo ≤ least f lo n ∧ least f lo n ≤ lo + n := by
      intro f n
      induction n with
      | zero => intro lo; simp [least]
      | succ n ih =>
        intro lo
        simp only [least]
        have := ih (lo + 1)
        split <;> omega
    have := this (fun z => decide (y ≤ ValueAt l z)) ((ptAt l (l.length - 1)).X - (ptAt l 0).X).toNat (ptAt l 0).X
    rw [a0, ae] at this
    simp only [a0, ae]
    exact ⟨hh.1, by omega, by omega⟩
  · simp at h
def LevelOf (r : Reach) : Int := if ReachOk r then (if (PlaceOf r.Table r.Volume).2 then (PlaceOf r.Table r.Volume).1 else (ptAt r.Table (r.Table.length - 1)).X) else 0
theorem LevelOf_in (r : Reach) : 0 ≤ LevelOf r ∧ LevelOf r ≤ 1000000000 := by
  unfold LevelOf
  split
  · rename_i h
    have ht : TableOk r.Table = true := by simp [ReachOk] at h; exact h.1.1.1.1
    obtain ⟨p0, pe, e0, ee, a0, ae, b1, b2, b3, hl1, hl2, b4, b5⟩ := table_ends ht
    split
    · rename_i hp; have := PlaceOf_val hp; omega
    · rw [ae]; omega
  · omega
theorem LevelOf_impl (r : Reach) : PureF Try.prog n_impl_LevelOf [.agg (r.enc.map .c)] (.c (.i (LevelOf r))) := by
  refine pure_of h_impl_LevelOf (by simp) fun hwf => ?_
  simp -dsimp -implicitDefEqProofs [c_impl_LevelOf]
  first
    | refine call_lend (ReachOk_impl r) (by simp) rfl ?_
    | refine call_pure (ReachOk_impl r) (by simp) rfl ?_
    | refine ⟨_, _, ReachOk_impl r, by simp, .inr rfl, ?_⟩
    | refine ⟨_, _, ReachOk_impl r, by simp, .inl rfl, ?_⟩
    | refine callE_pure (ReachOk_impl r) (by simp) (.inr rfl) ?_
    | refine callE_pure (ReachOk_impl r) (by simp) (.inl rfl) ?_
  cases h : ReachOk r with
  | false => simp -dsimp -implicitDefEqProofs; simp [LevelOf, h]
  | true =>
    have ht : TableOk r.Table = true := by simp [ReachOk] at h; exact h.1.1.1.1
    obtain ⟨p0, pe, e0, ee, a0, ae, b1, b2, b3, hl1, hl2, b4, b5⟩ := table_ends ht
    simp -dsimp -implicitDefEqProofs
    first
      | refine call_lend (PlaceOf_impl r.Table r.Volume) (by simp) rfl ?_
      | refine call_pure (PlaceOf_impl r.Table r.Volume) (by simp) rfl ?_
      | refine ⟨_, _, PlaceOf_impl r.Table r.Volume, by simp, .inr rfl, ?_⟩
      | refine ⟨_, _, PlaceOf_impl r.Table r.Volume, by simp, .inl rfl, ?_⟩
      | refine callE_pure (PlaceOf_impl r.Table r.Volume) (by simp) (.inr rfl) ?_
      | refine callE_pure (PlaceOf_impl r.Table r.Volume) (by simp) (.inl rfl) ?_
    cases hp : (PlaceOf r.Table r.Volume).2 with
    | false =>
      have l2 : (r.Table.length : Int) - 1 < r.Table.length := by omega
      have l3 : inI ((r.Table.length : Int) - 1) := by unfold inI; omega
      have l1 : (1 : Int) ≤ r.Table.length := by omega
      simp -dsimp -implicitDefEqProofs [hp, ee, l1, l2, l3]
      intro _
      simp [LevelOf, h, hp, ae]
    | true => simp -dsimp -implicitDefEqProofs [hp]; simp [LevelOf, h, hp]
def DepthIn (w : Way) (r : Reach) : Int := if WayOk w = true ∧ ReachOk r = true then (if 0 < LevelOf r - w.Bed then LevelOf r - w.Bed else 0) else 0
theorem WayOk_bed {w : Way} (h : WayOk w = true) : (1 ≤ w.Long ∧ w.Long ≤ 10000) ∧ 0 ≤ w.Bed ∧ w.Bed ≤ 100000 := by
  simp only [WayOk, Bool.and_eq_true] at h
  exact ⟨inRange_iff.1 h.1, inRange_iff.1 h.2⟩
theorem DepthIn_impl (w : Way) (r : Reach) : PureF Try.prog n_impl_DepthIn [.agg (w.enc.map .c), .agg (r.enc.map .c)] (.c (.i (DepthIn w r))) := by
  refine pure_of h_impl_DepthIn (by simp) fun hwf => ?_
  simp -dsimp -implicitDefEqProofs [c_impl_DepthIn]
  first
    | refine call_lend (WayOk_impl w) (by simp) rfl ?_
    | refine call_pure (WayOk_impl w) (by simp) rfl ?_
    | refine ⟨_, _, WayOk_impl w, by simp, .inr rfl, ?_⟩
    | refine ⟨_, _, WayOk_impl w, by simp, .inl rfl, ?_⟩
    | refine callE_pure (WayOk_impl w) (by simp) (.inr rfl) ?_
    | refine callE_pure (WayOk_impl w) (by simp) (.inl rfl) ?_
  simp -dsimp -implicitDefEqProofs
  refine ⟨fun h1 => ?_, fun h1 => by simp [DepthIn, h1]⟩
  first
    | refine call_lend (ReachOk_impl r) (by simp) rfl ?_
    | refine call_pure (ReachOk_impl r) (by simp) rfl ?_
    | refine ⟨_, _, ReachOk_impl r, by simp, .inr rfl, ?_⟩
    | refine ⟨_, _, ReachOk_impl r, by simp, .inl rfl, ?_⟩
    | refine callE_pure (ReachOk_impl r) (by simp) (.inr rfl) ?_
    | refine callE_pure (ReachOk_impl r) (by simp) (.inl rfl) ?_
  simp -dsimp -implicitDefEqProofs
  refine ⟨fun h2 => by simp [DepthIn, h2], fun h2 => ?_⟩
  first
    | refine call_lend (LevelOf_impl r) (by simp) rfl ?_
    | refine call_pure (LevelOf_impl r) (by simp) rfl ?_
    | refine ⟨_, _, LevelOf_impl r, by simp, .inr rfl, ?_⟩
    | refine ⟨_, _, LevelOf_impl r, by simp, .inl rfl, ?_⟩
    | refine callE_pure (LevelOf_impl r) (by simp) (.inr rfl) ?_
    | refine callE_pure (LevelOf_impl r) (by simp) (.inl rfl) ?_
  simp -dsimp -implicitDefEqProofs
  have hl := LevelOf_in r
  have hb := WayOk_bed h1
  exact ⟨by unfold inI; omega, by simp [DepthIn, h1, h2]⟩
@[simp] def Mover.oenc (e : Mover) : List C := [.b e.Train.Up, .ot 1 (e.Train.Rows.map eo_BoatS), .i e.Place]
@[simp] def Reach.oenc (e : Reach) : List C := [.ow 2 (e.Table.map Point.enc), .i e.Volume, .ow 1 (e.Pipe.map ienc)]
def small_MoverS : List Mover → Prop := smallS Mover.small
def firstId (t : Train) : Int := (IdsOf t)[0]?.getD 0
def grounded (w : Way) (r : Reach) (m : Mover) : Bool := MoverOk m w && decide (PaceOf m.Train (DepthIn w r) = 0)
def gId (m : Mover) : Int := firstId m.Train
def groundTo (ms : List Mover) (w : Way) (r : Reach) (k : Nat) : List Int := ((ms.take k).filter (grounded w r)).map gId
def GroundedOf (ms : List Mover) (w : Way) (r : Reach) : List Int := if WayOk w && ReachOk r then (ms.filter (grounded w r)).map gId else []
section
variable {ms : List Mover} {w : Way} {r : Reach} {k : Nat} {m : Mover}
theorem groundTo_zero : groundTo ms w r 0 = [] := rfl
theorem groundTo_yes (h : ms[k]? = some m) (hg : grounded w r m = true) : groundTo ms w r (k + 1) = groundTo ms w r k ++ [gId m] := by
  unfold groundTo; rw [List.take_succ, h, List.filter_append, List.map_append]; simp [hg]
theorem groundTo_no (h : ms[k]? = some m) (hg : grounded w r m = false) : groundTo ms w r (k + 1) = groundTo ms w r k := by
  unfold groundTo; rw [List.take_succ, h, List.filter_append, List.map_append]; simp [hg]
theorem groundTo_all (h : ms.length ≤ k) : groundTo ms w r k = (ms.filter (grounded w r)).map gId := by
  unfold groundTo; rw [List.take_of_length_le h]
theorem groundTo_len : (groundTo ms w r k).length ≤ k := by
  unfold groundTo; rw [List.length_map]
  refine Nat.le_trans (List.length_filter_le _ _) ?_
  rw [List.length_take]; omega
end
theorem gId_at {m : Mover} {w : Way} (h : MoverOk m w = true) : (IdsOf m.Train)[0]? = some (gId m) := by
  simp only [MoverOk, Bool.and_eq_true] at h
  have hl : 0 < (IdsOf m.Train).length := by
    have h2 := h.1.2
    simp only [TrainOk, Bool.and_eq_true] at h2
    have := inRange_iff.1 h2.2
    simp only [IdsOf, h.1.2, if_true, List.length_map]; omega
  unfold gId firstId
  rw [List.getElem?_eq_getElem hl]; rfl
theorem GroundedOf_impl (ms : List Mover) (w : Way) (r : Reach) (hm : small_MoverS ms) : OwnF Try.prog n_impl_GroundedOf [.c (.sl 3 (ms.map Mover.enc)), .agg (w.enc.map .c), .agg (r.enc.map .c)] (.c (.ow 1 ((GroundedOf ms w r).map ienc))) := by
  refine own_of h_impl_GroundedOf (by simp) fun hwf => ?_
  simp -dsimp -implicitDefEqProofs [c_impl_GroundedOf]
  first
    | refine call_lend (WayOk_impl w) (by simp) rfl ?_
    | refine call_pure (WayOk_impl w) (by simp) rfl ?_
    | refine ⟨_, _, WayOk_impl w, by simp, .inr rfl, ?_⟩
    | refine ⟨_, _, WayOk_impl w, by simp, .inl rfl, ?_⟩
    | refine callE_pure (WayOk_impl w) (by simp) (.inr rfl) ?_
    | refine callE_pure (WayOk_impl w) (by simp) (.inl rfl) ?_
  simp -dsimp -implicitDefEqProofs
  cases hw : WayOk w with
  | false => simp -dsimp -implicitDefEqProofs; simp [GroundedOf, hw]
  | true =>
    simp -dsimp -implicitDefEqProofs
    first
      | refine call_lend (ReachOk_impl r) (by simp) rfl ?_
      | refine call_pure (ReachOk_impl r) (by simp) rfl ?_
      | refine ⟨_, _, ReachOk_impl r, by simp, .inr rfl, ?_⟩
      | refine ⟨_, _, ReachOk_impl r, by simp, .inl rfl, ?_⟩
      | refine callE_pure (ReachOk_impl r) (by simp) (.inr rfl) ?_
      | refine callE_pure (ReachOk_impl r) (by simp) (.inl rfl) ?_
    cases hr : ReachOk r with
    | false => simp -dsimp -implicitDefEqProofs; simp [GroundedOf, hr]
    | true =>
      simp -dsimp -implicitDefEqProofs
      first
        | refine call_lend (DepthIn_impl w r) (by simp) rfl ?_
        | refine call_pure (DepthIn_impl w r) (by simp) rfl ?_
        | refine ⟨_, _, DepthIn_impl w r, by simp, .inr rfl, ?_⟩
        | refine ⟨_, _, DepthIn_impl w r, by simp, .inl rfl, ?_⟩
        | refine callE_pure (DepthIn_impl w r) (by simp) (.inr rfl) ?_
        | refine callE_pure (DepthIn_impl w r) (by simp) (.inl rfl) ?_
      simp -dsimp -implicitDefEqProofs
      intro hlen
      have hl1 := hm.1
      refine virt_rule (k0 := 1) 8 1 (by simp) (by simp) (by decide) ?_
      refine loop_rule (ι := Nat) (fun k => k ≤ ms.length) (fun k => stOf [(4, .box 4 0), (7, .c (.i (DepthIn w r))), (8, .own 8 1 (groundTo ms w r k).length), (22, .c (.sl 3 (ms.map Mover.enc))), (23, .c (.i ms.length)), (24, .c (.i k))] [(4, .box [.c (.i w.Long), .c (.i w.Bed)]), (8, .row 1 ((groundTo ms w r k).map ienc))]) (fun k => ms.length - k) 0 (by simp) (by apply le_of <;> simp [AV.refs1, AV.ref0, Obj.refs1, groundTo_zero]) ?_
      rintro k hk
      have hgl := groundTo_len (ms := ms) (w := w) (r := r) (k := k)
      rcases Nat.lt_or_ge k ms.length with hlt | hge
      · obtain ⟨m, he⟩ : ∃ m, ms[k]? = some m := ⟨_, List.getElem?_eq_getElem hlt⟩
        have hms := hm.2 m (List.mem_of_getElem? he)
        simp -dsimp -implicitDefEqProofs [he, lt_t hlt]
        first
          | refine call_lend (MoverOk_impl m w hms) (by simp) rfl ?_
          | refine call_pure (MoverOk_impl m w hms) (by simp) rfl ?_
          | refine ⟨_, _, MoverOk_impl m w hms, by simp, .inr rfl, ?_⟩
          | refine ⟨_, _, MoverOk_impl m w hms, by simp, .inl rfl, ?_⟩
          | refine callE_pure (MoverOk_impl m w hms) (by simp) (.inr rfl) ?_
          | refine callE_pure (MoverOk_impl m w hms) (by simp) (.inl rfl) ?_
        cases h1 : MoverOk m w with
        | false =>
          have hn := groundTo_no (w := w) (r := r) he (by simp [grounded, h1])
          simp -dsimp -implicitDefEqProofs
          refine ⟨inI_succ hlt hlen, k + 1, hlt, by omega, ?_⟩
          apply le_of <;> simp [AV.refs1, AV.ref0, Obj.refs1, hn]
        | true =>
          simp -dsimp -implicitDefEqProofs
          first
            | refine call_lend (PaceOf_impl m.Train (DepthIn w r) hms) (by simp) rfl ?_
            | refine call_pure (PaceOf_impl m.Train (DepthIn w r) hms) (by simp) rfl ?_
            | refine ⟨_, _, PaceOf_impl m.Train (DepthIn w r) hms, by simp, .inr rfl, ?_⟩
            | refine ⟨_, _, PaceOf_impl m.Train (DepthIn w r) hms, by simp, .inl rfl, ?_⟩
            | refine callE_pure (PaceOf_impl m.Train (DepthIn w r) hms) (by simp) (.inr rfl) ?_
            | refine callE_pure (PaceOf_impl m.Train (DepthIn w r) hms) (by simp) (.inl rfl) ?_
          simp -dsimp -implicitDefEqProofs
          refine ⟨fun h2 => ?_, fun h2 => ?_⟩
          · skip
            first
              | refine call_lend (IdsOf_implP m.Train hms) (by simp) rfl ?_
              | refine call_pure (IdsOf_implP m.Train hms) (by simp) rfl ?_
              | refine ⟨_, _, IdsOf_implP m.Train hms, by simp, .inr rfl, ?_⟩
              | refine ⟨_, _, IdsOf_implP m.Train hms, by simp, .inl rfl, ?_⟩
              | refine callE_pure (IdsOf_implP m.Train hms) (by simp) (.inr rfl) ?_
              | refine callE_pure (IdsOf_implP m.Train hms) (by simp) (.inl rfl) ?_
            have hg := gId_at h1
            have hy := groundTo_yes (w := w) (r := r) he (by simp [grounded, h1, h2])
            simp -dsimp -implicitDefEqProofs [hg]
            refine ⟨(List.getElem?_eq_some_iff.1 hg).1, by omega, inI_succ hlt hlen, k + 1, hlt, by omega, ?_⟩
            apply le_of <;> simp [AV.refs1, AV.ref0, Obj.refs1, hy]
          · have hn := groundTo_no (w := w) (r := r) he (by simp [grounded, h1, h2])
            refine ⟨inI_succ hlt hlen, k + 1, hlt, by omega, ?_⟩
            apply le_of <;> simp [AV.refs1, AV.ref0, Obj.refs1, hn]
      · simp -dsimp -implicitDefEqProofs [lt_f hge]
        rw [take_full, groundTo_all hge]
        simp [GroundedOf, hw, hr]
theorem CloneB_o (es : List Boat) (hl : es.length ≤ 1048576) : OwnF Try.prog n_slices_Clone___impl_Boat_impl_Boat_ [.c (.sl 6 (es.map Boat.enc))] (.c (.ow 6 (es.map Boat.enc))) := by
  refine own_of h_slices_Clone___impl_Boat_impl_Boat_ (by simp) fun hwf => ?_
  simp -dsimp -implicitDefEqProofs [c_slices_Clone___impl_Boat_impl_Boat_, take_full]
  omega
theorem copyRows_o (xs : List (List Boat)) (hl : small_BoatSS xs) : OwnF Try.prog n_impl_copyRows [.c (.sl 1 (xs.map enc_BoatS))] (.c (.ot 1 (xs.map eo_BoatS))) := by
  refine own_of h_impl_copyRows (by simp) fun hwf => ?_
  simp -dsimp -implicitDefEqProofs [c_impl_copyRows]
  intro hlen
  have hl1 := hl.1
  refine virt_tree (k0 := 1) 3 1 (by simp) (by simp) (by decide) ?_
  refine loop_rule (ι := Nat) (fun k => k ≤ xs.length) (fun k => stOf [(3, .own 3 1 k), (6, .c (.sl 1 (xs.map enc_BoatS))), (7, .c (.i xs.length)), (8, .c (.i k))] [(3, .tr 1 0 ((xs.take k).map eo_BoatS))]) (fun k => xs.length - k) 0 (by simp) (by apply le_of <;> simp [AV.refs1, AV.ref0, Obj.refs1, Obj.leO]) ?_
  rintro k hk
  rcases Nat.lt_or_ge k xs.length with hlt | hge
  · obtain ⟨e, he⟩ : ∃ e, xs[k]? = some e := ⟨_, List.getElem?_eq_getElem hlt⟩
    have hs : xs.take (k + 1) = xs.take k ++ [e] := by rw [List.take_succ, he]; rfl
    simp -dsimp -implicitDefEqProofs [he, lt_t hlt]
    first
      | refine call_own (CloneB_o e (hl.2 e (List.mem_of_getElem? he)).1) (by simp ) (by simp [AV.closed, AV.closed1, C.closed]) (by simp [freshO]) ?_
      | refine callE_own (CloneB_o e (hl.2 e (List.mem_of_getElem? he)).1) (by simp ) (by simp [AV.closed, AV.closed1, C.closed]) (by simp [freshO]) ?_
    simp -dsimp -implicitDefEqProofs [take_full, Nat.min_eq_left hk]
    refine ⟨by omega, inI_succ hlt hlen, k + 1, hlt, by omega, ?_⟩
    have hs2 : (xs.map eo_BoatS).take (k + 1) = (xs.map eo_BoatS).take k ++ [[.ow 6 (e.map Boat.enc)]] := by rw [← List.map_take, ← List.map_take, hs, List.map_append]; rfl
    apply le_of <;> simp [AV.refs1, AV.ref0, Obj.refs1, Obj.leO, hs2]
  · have : k = xs.length := by omega
    subst this
    simp -dsimp -implicitDefEqProofs [take_full]
    try simp
theorem copyTrain_o (e : Train) (hl : Train.small e) : OwnF Try.prog n_impl_copyTrain [.agg (e.enc.map .c)] (.agg (e.oenc.map .c)) := by
  refine own_of h_impl_copyTrain (by simp) fun hwf => ?_
  simp -dsimp -implicitDefEqProofs [c_impl_copyTrain]
  refine callE_own (copyRows_o e.Rows hl) (by simp) (by simp [AV.closed, AV.closed1, C.closed, eo_BoatS]) (by simp [freshO]) ?_
  simp -dsimp -implicitDefEqProofs [take_full]
theorem PaceOf_in2 (t : Train) (d : Int) : 0 ≤ PaceOf t d ∧ PaceOf t d ≤ 51 := by
  have := SpeedOf_in t
  unfold PaceOf
  split
  · split
    · rw [Int.tdiv_eq_ediv_of_nonneg (by omega)]; omega
    · omega
  · omega
theorem moverFacts2 {m : Mover} {w : Way} (h : MoverOk m w = true) : (1 ≤ w.Long ∧ w.Long ≤ 10000) ∧ (0 ≤ m.Place ∧ m.Place ≤ w.Long) := by
  simp only [MoverOk, Bool.and_eq_true] at h
  exact ⟨(WayOk_bed h.1.1).1, inRange_iff.1 h.2⟩
def newPlace (m : Mover) (w : Way) (r : Reach) : Int :=
  if m.Train.Up then (if 0 < m.Place - PaceOf m.Train (DepthIn w r) then m.Place - PaceOf m.Train (DepthIn w r) else 0)
  else if m.Place + PaceOf m.Train (DepthIn w r) < w.Long then m.Place + PaceOf m.Train (DepthIn w r) else w.Long
def MoveOne (m : Mover) (w : Way) (r : Reach) : Mover := if MoverOk m w && ReachOk r then ⟨m.Train, newPlace m w r⟩ else m
theorem moved_c (m : Mover) (w : Way) (r : Reach) (hm : m.small) : PureF Try.prog n_impl_moved [.agg (m.enc.map .c), .agg (w.enc.map .c), .agg (r.enc.map .c)] (.agg ((MoveOne m w r).enc.map .c)) := by
  refine pure_of h_impl_moved (by simp) fun hwf => ?_
  simp -dsimp -implicitDefEqProofs [c_impl_moved]
  first
    | refine call_lend (MoverOk_impl m w hm) (by simp) rfl ?_
    | refine call_pure (MoverOk_impl m w hm) (by simp) rfl ?_
    | refine ⟨_, _, MoverOk_impl m w hm, by simp, .inr rfl, ?_⟩
    | refine ⟨_, _, MoverOk_impl m w hm, by simp, .inl rfl, ?_⟩
    | refine callE_pure (MoverOk_impl m w hm) (by simp) (.inr rfl) ?_
    | refine callE_pure (MoverOk_impl m w hm) (by simp) (.inl rfl) ?_
  cases h1 : MoverOk m w with
  | false => simp -dsimp -implicitDefEqProofs; simp [MoveOne, h1]
  | true =>
    simp -dsimp -implicitDefEqProofs
    first
      | refine call_lend (ReachOk_impl r) (by simp) rfl ?_
      | refine call_pure (ReachOk_impl r) (by simp) rfl ?_
      | refine ⟨_, _, ReachOk_impl r, by simp, .inr rfl, ?_⟩
      | refine ⟨_, _, ReachOk_impl r, by simp, .inl rfl, ?_⟩
      | refine callE_pure (ReachOk_impl r) (by simp) (.inr rfl) ?_
      | refine callE_pure (ReachOk_impl r) (by simp) (.inl rfl) ?_
    cases h2 : ReachOk r with
    | false => simp -dsimp -implicitDefEqProofs; simp [MoveOne, h2]
    | true =>
      simp -dsimp -implicitDefEqProofs
      first
        | refine call_lend (DepthIn_impl w r) (by simp) rfl ?_
        | refine call_pure (DepthIn_impl w r) (by simp) rfl ?_
        | refine ⟨_, _, DepthIn_impl w r, by simp, .inr rfl, ?_⟩
        | refine ⟨_, _, DepthIn_impl w r, by simp, .inl rfl, ?_⟩
        | refine callE_pure (DepthIn_impl w r) (by simp) (.inr rfl) ?_
        | refine callE_pure (DepthIn_impl w r) (by simp) (.inl rfl) ?_
      simp -dsimp -implicitDefEqProofs
      first
        | refine call_lend (PaceOf_impl m.Train (DepthIn w r) hm) (by simp) rfl ?_
        | refine call_pure (PaceOf_impl m.Train (DepthIn w r) hm) (by simp) rfl ?_
        | refine ⟨_, _, PaceOf_impl m.Train (DepthIn w r) hm, by simp, .inr rfl, ?_⟩
        | refine ⟨_, _, PaceOf_impl m.Train (DepthIn w r) hm, by simp, .inl rfl, ?_⟩
        | refine callE_pure (PaceOf_impl m.Train (DepthIn w r) hm) (by simp) (.inr rfl) ?_
        | refine callE_pure (PaceOf_impl m.Train (DepthIn w r) hm) (by simp) (.inl rfl) ?_
      have hp := PaceOf_in2 m.Train (DepthIn w r)
      have hf := moverFacts2 h1
      cases hu : m.Train.Up with
      | true =>
        simp -dsimp -implicitDefEqProofs [hu]
        refine ⟨by unfold inI; omega, ?_⟩
        simp [MoveOne, h1, h2, newPlace, hu]
      | false =>
        simp -dsimp -implicitDefEqProofs [hu]
        refine ⟨by unfold inI; omega, ?_⟩
        simp [MoveOne, h1, h2, newPlace, hu]
theorem MoveOne_train {m : Mover} {w : Way} {r : Reach} : (MoveOne m w r).Train = m.Train := by unfold MoveOne; split <;> rfl
theorem MoveOne_impl (m : Mover) (w : Way) (r : Reach) (hm : m.small) : OwnF Try.prog n_impl_MoveOne [.agg (m.enc.map .c), .agg (w.enc.map .c), .agg (r.enc.map .c)] (.agg ((MoveOne m w r).oenc.map .c)) := by
  refine own_of h_impl_MoveOne (by simp) fun hwf => ?_
  simp -dsimp -implicitDefEqProofs [c_impl_MoveOne]
  first
    | refine call_lend (moved_c m w r hm) (by simp) rfl ?_
    | refine call_pure (moved_c m w r hm) (by simp) rfl ?_
    | refine ⟨_, _, moved_c m w r hm, by simp, .inr rfl, ?_⟩
    | refine ⟨_, _, moved_c m w r hm, by simp, .inl rfl, ?_⟩
    | refine callE_pure (moved_c m w r hm) (by simp) (.inr rfl) ?_
    | refine callE_pure (moved_c m w r hm) (by simp) (.inl rfl) ?_
  simp -dsimp -implicitDefEqProofs
  refine call_own (copyTrain_o m.Train hm) (by simp) (by simp [AV.closed, AV.closed1, C.closed, eo_BoatS]) (by simp [freshO]) ?_
  simp -dsimp -implicitDefEqProofs [take_full, MoveOne_train]
theorem MoveOne_implP (m : Mover) (w : Way) (r : Reach) (hm : m.small) : PureF Try.prog n_impl_MoveOne [.agg (m.enc.map .c), .agg (w.enc.map .c), .agg (r.enc.map .c)] (.agg ((MoveOne m w r).enc.map .c)) := (MoveOne_impl m w r hm).pure (by simp [AV.shr, AV.shr1, shrl, cshr_ot eo_BoatS_shr])
theorem PaceOf_in (t : Train) (d : Int) : 0 ≤ PaceOf t d ∧ PaceOf t d ≤ 51 := by
  have := SpeedOf_in t
  unfold PaceOf
  split
  · split
    · rw [Int.tdiv_eq_ediv_of_nonneg (by omega)]; omega
    · omega
  · omega
theorem moverFacts {m : Mover} {w : Way} (h : MoverOk m w = true) : (1 ≤ w.Long ∧ w.Long ≤ 10000) ∧ (0 ≤ m.Place ∧ m.Place ≤ w.Long) := by
  simp only [MoverOk, Bool.and_eq_true] at h
  exact ⟨(WayOk_bed h.1.1).1, inRange_iff.1 h.2⟩
def leftOf (m : Mover) (w : Way) : Int := if m.Train.Up then m.Place else w.Long - m.Place
def TimeTo (m : Mover) (w : Way) (r : Reach) : Int :=
  if MoverOk m w && ReachOk r then (if leftOf m w = 0 then 0 else if PaceOf m.Train (DepthIn w r) = 0 then -1 else (leftOf m w + PaceOf m.Train (DepthIn w r) - 1).tdiv (PaceOf m.Train (DepthIn w r))) else -1
theorem TimeTo_no1 {m : Mover} {w : Way} {r : Reach} (h : MoverOk m w = false) : TimeTo m w r = -1 := by simp [TimeTo, h]
theorem TimeTo_no2 {m : Mover} {w : Way} {r : Reach} (h : ReachOk r = false) : TimeTo m w r = -1 := by simp [TimeTo, h]
theorem TimeTo_yes {m : Mover} {w : Way} {r : Reach} {l : Int} (h1 : MoverOk m w = true) (h2 : ReachOk r = true) (hl : leftOf m w = l) : TimeTo m w r = if l = 0 then 0 else if PaceOf m.Train (DepthIn w r) = 0 then -1 else (l + PaceOf m.Train (DepthIn w r) - 1).tdiv (PaceOf m.Train (DepthIn w r)) := by
  subst hl; simp [TimeTo, h1, h2]
theorem ratio_in {l p : Int} (h1 : 0 ≤ l) (h2 : l ≤ 10000) (h3 : 0 ≤ p) (h4 : p ≤ 51) (h5 : p ≠ 0) : inI (l + p) ∧ inI (l + p - 1) ∧ inI ((l + p - 1).tdiv p) := by
  have e1 : (l + p - 1).tdiv p = (l + p - 1) / p := Int.tdiv_eq_ediv_of_nonneg (by omega)
  have e2 : 0 ≤ (l + p - 1) / p := Int.ediv_nonneg (by omega) h3
  have e3 : (l + p - 1) / p ≤ l + p - 1 := Int.ediv_le_self _ (by omega)
  rw [e1]
  refine ⟨?_, ?_, ?_⟩ <;> unfold inI <;> omega
theorem TimeTo_impl (m : Mover) (w : Way) (r : Reach) (h : m.small) : PureF Try.prog n_impl_TimeTo [.agg (m.enc.map .c), .agg (w.enc.map .c), .agg (r.enc.map .c)] (.c (.i (TimeTo m w r))) := by
  refine pure_of h_impl_TimeTo (by simp) fun hwf => ?_
  simp -dsimp -implicitDefEqProofs [c_impl_TimeTo]
  first
    | refine call_lend (MoverOk_impl m w h) (by simp) rfl ?_
    | refine call_pure (MoverOk_impl m w h) (by simp) rfl ?_
    | refine ⟨_, _, MoverOk_impl m w h, by simp, .inr rfl, ?_⟩
    | refine ⟨_, _, MoverOk_impl m w h, by simp, .inl rfl, ?_⟩
    | refine callE_pure (MoverOk_impl m w h) (by simp) (.inr rfl) ?_
    | refine callE_pure (MoverOk_impl m w h) (by simp) (.inl rfl) ?_
  cases h1 : MoverOk m w with
  | false => simp -dsimp -implicitDefEqProofs; simp [TimeTo_no1 h1]
  | true =>
    simp -dsimp -implicitDefEqProofs
    first
      | refine call_lend (ReachOk_impl r) (by simp) rfl ?_
      | refine call_pure (ReachOk_impl r) (by simp) rfl ?_
      | refine ⟨_, _, ReachOk_impl r, by simp, .inr rfl, ?_⟩
      | refine ⟨_, _, ReachOk_impl r, by simp, .inl rfl, ?_⟩
      | refine callE_pure (ReachOk_impl r) (by simp) (.inr rfl) ?_
      | refine callE_pure (ReachOk_impl r) (by simp) (.inl rfl) ?_
    cases h2 : ReachOk r with
    | false => simp -dsimp -implicitDefEqProofs; simp [TimeTo_no2 h2]
    | true =>
      obtain ⟨f1, f2⟩ := moverFacts h1
      have hp := PaceOf_in m.Train (DepthIn w r)
      cases hu : m.Train.Up with
      | true =>
        have hl : leftOf m w = m.Place := by simp [leftOf, hu]
        rw [TimeTo_yes h1 h2 hl]
        simp -dsimp -implicitDefEqProofs [hu]
        refine ⟨fun h3 => by simp [h3], fun h3 => ?_⟩
        first
          | refine call_lend (DepthIn_impl w r) (by simp) rfl ?_
          | refine call_pure (DepthIn_impl w r) (by simp) rfl ?_
          | refine ⟨_, _, DepthIn_impl w r, by simp, .inr rfl, ?_⟩
          | refine ⟨_, _, DepthIn_impl w r, by simp, .inl rfl, ?_⟩
          | refine callE_pure (DepthIn_impl w r) (by simp) (.inr rfl) ?_
          | refine callE_pure (DepthIn_impl w r) (by simp) (.inl rfl) ?_
        simp -dsimp -implicitDefEqProofs
        first
          | refine call_lend (PaceOf_impl m.Train (DepthIn w r) h) (by simp [hu]) rfl ?_
          | refine call_pure (PaceOf_impl m.Train (DepthIn w r) h) (by simp [hu]) rfl ?_
          | refine ⟨_, _, PaceOf_impl m.Train (DepthIn w r) h, by simp [hu], .inr rfl, ?_⟩
          | refine ⟨_, _, PaceOf_impl m.Train (DepthIn w r) h, by simp [hu], .inl rfl, ?_⟩
          | refine callE_pure (PaceOf_impl m.Train (DepthIn w r) h) (by simp [hu]) (.inr rfl) ?_
          | refine callE_pure (PaceOf_impl m.Train (DepthIn w r) h) (by simp [hu]) (.inl rfl) ?_
        simp -dsimp -implicitDefEqProofs
        refine ⟨fun h4 => by simp [h3, h4], fun h4 => ?_⟩
        obtain ⟨g1, g2, g3⟩ := ratio_in f2.1 (by omega) hp.1 hp.2 h4
        exact ⟨g1, g2, h4, g3, by simp [h3, h4]⟩
      | false =>
        have hl : leftOf m w = w.Long - m.Place := by simp [leftOf, hu]
        rw [TimeTo_yes h1 h2 hl]
        simp -dsimp -implicitDefEqProofs [hu]
        refine ⟨by unfold inI; omega, fun h3 => by simp [h3], fun h3 => ?_⟩
        first
          | refine call_lend (DepthIn_impl w r) (by simp) rfl ?_
          | refine call_pure (DepthIn_impl w r) (by simp) rfl ?_
          | refine ⟨_, _, DepthIn_impl w r, by simp, .inr rfl, ?_⟩
          | refine ⟨_, _, DepthIn_impl w r, by simp, .inl rfl, ?_⟩
          | refine callE_pure (DepthIn_impl w r) (by simp) (.inr rfl) ?_
          | refine callE_pure (DepthIn_impl w r) (by simp) (.inl rfl) ?_
        simp -dsimp -implicitDefEqProofs
        first
          | refine call_lend (PaceOf_impl m.Train (DepthIn w r) h) (by simp [hu]) rfl ?_
          | refine call_pure (PaceOf_impl m.Train (DepthIn w r) h) (by simp [hu]) rfl ?_
          | refine ⟨_, _, PaceOf_impl m.Train (DepthIn w r) h, by simp [hu], .inr rfl, ?_⟩
          | refine ⟨_, _, PaceOf_impl m.Train (DepthIn w r) h, by simp [hu], .inl rfl, ?_⟩
          | refine callE_pure (PaceOf_impl m.Train (DepthIn w r) h) (by simp [hu]) (.inr rfl) ?_
          | refine callE_pure (PaceOf_impl m.Train (DepthIn w r) h) (by simp [hu]) (.inl rfl) ?_
        simp -dsimp -implicitDefEqProofs
        refine ⟨fun h4 => by simp [h3, h4], fun h4 => ?_⟩
        obtain ⟨g1, g2, g3⟩ := ratio_in (l := w.Long - m.Place) (by omega) (by omega) hp.1 hp.2 h4
        exact ⟨g1, g2, h4, g3, by simp [h3, h4]⟩
def atV (code : List UInt8) (i : Nat) : Int := if code.length = 0 then 0 else (code[(i * 5 + 1) % code.length]?.map fun b => (b.toNat : Int)).getD 0
theorem atV_rng (code : List UInt8) (i : Nat) : 0 ≤ atV code i ∧ atV code i ≤ 255 := by
  unfold atV
  split
  · omega
  · cases h : code[(i * 5 + 1) % code.length]? with
    | none => simp
    | some b => have := u8_lt b; simp; omega
theorem at_c (code : List UInt8) (i : Nat) (hi : i ≤ 1000) : PureF Try.prog n_laws_at [.c (.sl 1 (code.map uenc)), .c (.i i)] (.c (.i (atV code i))) := by
  refine pure_of h_laws_at (by simp) fun hwf => ?_
  cases code with
  | nil => simp -dsimp -implicitDefEqProofs [c_laws_at]; simp [atV]
  | cons b0 l =>
    obtain ⟨cs, hcs⟩ : ∃ cs, cs = b0 :: l := ⟨_, rfl⟩
    have hl : 0 < cs.length := by rw [hcs]; simp
    rw [← hcs]
    obtain ⟨j, hj⟩ : ∃ j, j = (i * 5 + 1) % cs.length := ⟨_, rfl⟩
    have hjl : j < cs.length := by rw [hj]; exact Nat.mod_lt _ hl
    obtain ⟨b, hb⟩ : ∃ b, cs[j]? = some b := ⟨_, List.getElem?_eq_getElem hjl⟩
    have gb := (List.getElem?_eq_some_iff.1 hb).2
    have h8 := u8_lt b
    have hv : atV cs i = b.toNat := by unfold atV; rw [if_neg (by omega), ← hj, hb]; rfl
    have hji : ((i : Int) * 5 + 1).tmod cs.length = (j : Int) := by
      rw [hj, Int.tmod_eq_emod_of_nonneg (by omega), Int.natCast_emod]; simp
    have hne : (cs = []) = False := by simp only [eq_iff_iff, iff_false]; intro h; rw [h] at hl; simp at hl
    have hne0 : (cs.length = 0) = False := by simp only [eq_iff_iff, iff_false]; omega
    rw [hv]
    simp -dsimp -implicitDefEqProofs [c_laws_at, hne, hne0, hji, hb, gb, hjl, uenc]
    refine fun hml => ⟨by unfold inI; omega, by unfold inI; omega, fun _ => ?_⟩
    unfold maxLen at hml
    unfold inI; omega
def wayL : List Int := [1, 10, 50, 200]
def wayV (code : List UInt8) (p : Nat × Int) : Way := ⟨pickV code wayL p, belowV code 60 (pickN code wayL p)⟩
theorem l07Way_c (code : List UInt8) (p : Nat × Int) (hp : p.1 ≤ code.length) : CurF Try.prog n_spec_l07Way (curC code p) (curC code (belowN code 60 (pickN code wayL p))) [] (.agg ((wayV code p).enc.map .c)) := by
  have hpk := l01PickInt_g code wayL p hp (by simp [wayL]) (by simp [wayL])
  have e4 : wayL.map ienc = [[.i 1], [.i 10], [.i 50], [.i 200]] := rfl
  refine cur_of h_spec_l07Way (by simp) fun hwf hwf2 => ?_
  simp -dsimp -implicitDefEqProofs [c_spec_l07Way]
  refine call_curG (rows := [[.i 1], [.i 10], [.i 50], [.i 200]]) (by simpa [e4] using hpk) (by simp) (by simp) rfl ?_
  simp -dsimp -implicitDefEqProofs
  refine call_cur (l01Below_c code 60 (pickN code wayL p) (pickN_ok hp) (by omega) (by omega)) (by simp ) (by simp) rfl (by simp [freshO]) ?_
  simp -dsimp -implicitDefEqProofs
  simp [wayV]
def drawnWay (code : List UInt8) : Way := wayV code (0, hash code)
theorem DrawWay_p (code : List UInt8) (hl : code.length ≤ 1048576) : PureF Try.prog n_spec_DrawWay [.c (.sl 1 (code.map uenc))] (.agg ((drawnWay code).enc.map .c)) := by
  refine pure_of h_spec_DrawWay (by simp) fun hwf => ?_
  have hpl : (∀ x, x ∈ curC code (0, hash code) → x.plain = true) = True := by simp [curC, C.plain]
  simp -dsimp -implicitDefEqProofs [c_spec_DrawWay]
  refine call_ownD (l01New_o code hl) (by simp) rfl (by simp [freshO, hpl]) ?_
  simp -dsimp -implicitDefEqProofs [hpl]
  refine call_cur (l07Way_c code (0, hash code) (by simp)) (by simp [hpl]) (by simp) rfl (by simp [freshO, hpl]) ?_
  simp -dsimp -implicitDefEqProofs [hpl]
  simp [drawnWay]
def drawnTrain (code : List UInt8) : Train := trainV code 1 (0, hash code)
theorem DrawTrain_o (code : List UInt8) (hl : code.length ≤ 1048576) : OwnF Try.prog n_spec_DrawTrain [.c (.sl 1 (code.map uenc))] (.agg [.c (.b (drawnTrain code).Up), .c (.ot 1 ((drawnTrain code).Rows.map eoB))]) := by
  refine own_of h_spec_DrawTrain (by simp) fun hwf => ?_
  have hpl : (∀ x, x ∈ curC code (0, hash code) → x.plain = true) = True := by simp [curC, C.plain]
  simp -dsimp -implicitDefEqProofs [c_spec_DrawTrain]
  refine call_ownD (l01New_o code hl) (by simp) rfl (by simp [freshO, hpl]) ?_
  simp -dsimp -implicitDefEqProofs [hpl]
  refine call_cur (l04Train_c code 1 (0, hash code) (by simp) (by omega)) (by simp [hpl]) (by simp) rfl (by simp [freshO, hpl]) ?_
  simp -dsimp -implicitDefEqProofs [hpl]
  simp [drawnTrain, take_full]
theorem DrawTrain_p (code : List UInt8) (hl : code.length ≤ 1048576) : PureF Try.prog n_spec_DrawTrain [.c (.sl 1 (code.map uenc))] (.agg ((drawnTrain code).enc.map .c)) := (DrawTrain_o code hl).pure (by simp [AV.shr, AV.shr1, shrl, cshr_ot (f := eoB) (g := enc_BoatS) fun r => rfl])
def sailT : List Point := [⟨0, 0⟩, ⟨500, 500000⟩]
theorem sailT_ok : TableOk sailT = true := by decide
theorem sailT_val {x : Int} (h0 : 0 ≤ x) (h1 : x ≤ 500) : ValueAt sailT x = 1000 * x := by
  have e0 : ptAt sailT 0 = ⟨0, 0⟩ := rfl
  have e1 : ptAt sailT 1 = ⟨500, 500000⟩ := rfl
  have el : sailT.length - 1 = 1 := rfl
  unfold ValueAt
  rw [if_pos sailT_ok, el, e0, e1]
  by_cases h2 : x ≤ 0
  · rw [if_pos h2]; simp only; omega
  · rw [if_neg h2]
    by_cases h3 : (500 : Int) ≤ x
    · rw [if_pos h3]; simp only; omega
    · rw [if_neg h3]
      have es : seg sailT x = 0 := by
        have : (decide ((500 : Int) ≤ x)) = false := by simpa using h3
        simp [seg, sailT, List.takeWhile_cons, this]
      rw [es, e0, e1]
      simp only [valAt]
      have : ((x - 0) * (500000 - 0) : Int) = 1000 * x * (500 - 0) := by omega
      rw [this, Int.mul_tdiv_cancel _ (by omega)]; omega
def sailR (l : Int) : Reach := ⟨sailT, 1000 * l, []⟩
theorem sailR_ok {l : Int} (h0 : 0 ≤ l) (h1 : l ≤ 500) : ReachOk (sailR l) = true := by
  have ha : amount (1000 * l) = true := inRange_iff.2 ⟨by omega, by omega⟩
  simp only [ReachOk, sailR, sailT_ok, ha, l02Sum]
  simp; omega
theorem sailR_level {l : Int} (h0 : 0 ≤ l) (h1 : l ≤ 500) : LevelOf (sailR l) = l := by
  have hp : PlaceOf (sailR l).Table (sailR l).Volume = (l, true) := by
    refine PlaceOf_is sailT_ok ?_ h0 h1 ?_ fun z z0 z1 => ?_
    · show 1000 * l ≤ 500000; omega
    · show 1000 * l ≤ ValueAt sailT l
      rw [sailT_val h0 h1]; exact Int.le_refl _
    · show ValueAt sailT z < 1000 * l
      have z0' : 0 ≤ z := z0
      rw [sailT_val z0' (by omega)]; omega
  unfold LevelOf
  rw [if_pos (sailR_ok h0 h1), hp]; rfl
theorem sailR_depth {w : Way} (hw : WayOk w = true) {d : Int} (h0 : 0 ≤ d) (hd : 0 ≤ w.Bed + d) (h1 : w.Bed + d ≤ 500) : DepthIn w (sailR (w.Bed + d)) = d := by
  unfold DepthIn
  rw [if_pos ⟨hw, sailR_ok hd h1⟩, sailR_level hd h1]
  split <;> omega
theorem speed_pos {t : Train} (h : TrainOk t = true) : 1 ≤ SpeedOf t := by
  have tf := trainFacts h
  unfold SpeedOf
  rw [if_pos h]
  have hf : ∀ x ∈ t.boats, 1 ≤ x.Speed ∧ x.Speed ≤ 50 := fun x hx => (boatFacts (tf.ok x hx)).2.2.2.2.1
  have h1 : 1 ≤ firstOf Boat.Speed t.boats ∧ firstOf Boat.Speed t.boats ≤ 50 := by
    have hp := tf.pos
    cases hb : t.boats with
    | nil => rw [hb] at hp; simp at hp
    | cons b l => exact hf b (by rw [hb]; simp)
  exact (minOf_in hf h1.1 h1.2).1
theorem pace_zero {t : Train} (h : TrainOk t = true) {d : Int} (h0 : 0 ≤ d) (h1 : d ≤ 1000) : (PaceOf t d = 0 ↔ d < DraughtOf t) ∧ 0 ≤ PaceOf t d ∧ PaceOf t d ≤ 51 := by
  have hs := speed_pos h
  have hp := PaceOf_in t d
  refine ⟨?_, hp⟩
  have hr : inRange d 0 1000000000 = true := inRange_iff.2 ⟨h0, by omega⟩
  unfold PaceOf
  rw [h, hr]
  by_cases h2 : DraughtOf t ≤ d
  · have h3 : ¬ d < DraughtOf t := by omega
    simp only [h2, decide_true, Bool.and_self, if_true, h3, iff_false]
    split
    · rw [Int.tdiv_eq_ediv_of_nonneg (by omega)]; omega
    · omega
  · have h3 : d < DraughtOf t := by omega
    simp [h2, h3]
theorem pace_full {t : Train} (h : TrainOk t = true) (hd : DraughtOf t ≤ 30) : PaceOf t 100 = SpeedOf t := by
  have hr : inRange 100 0 1000000000 = true := by decide
  unfold PaceOf
  rw [h, hr, if_pos (by simp; omega), if_neg (by omega)]
theorem trainTo_draught {code : List UInt8} {id : Int} {p : Nat × Int} : ∀ k : Nat, ∀ b ∈ (trainTo code id p k).2.flatten, 0 ≤ b.Draught ∧ b.Draught ≤ 30
  | 0, b, h => by simp [trainTo] at h
  | k + 1, b, h => by
    rw [trainTo_flat] at h
    rcases List.mem_append.1 h with h | h
    · exact trainTo_draught k b h
    · simp only [List.mem_singleton] at h
      subst h
      have h3 := belowV_rng (code := code) (n := 30) (p := boatP2 code (trainTo code id p k).1) (by omega)
      simp only [boatV]; omega
theorem drawnTrain_ok (code : List UInt8) : TrainOk (drawnTrain code) = true ∧ (drawnTrain code).small ∧ DraughtOf (drawnTrain code) ≤ 30 := by
  refine ⟨trainV_ok (by omega), trainV_small, ?_⟩
  unfold DraughtOf
  split
  · refine (maxOf_in (a := 0) (b := 30) (fun x hx => ?_) (by omega) (by omega)).2
    exact trainTo_draught _ x hx
  · omega
/-- Where the train is after k moves. -/
def placeK (up : Bool) (long p q : Int) (k : Nat) : Int := if up then (if 0 < p - k * q then p - k * q else 0) else if p + k * q < long then p + k * q else long
theorem placeK_zero {up : Bool} {long p q : Int} (h0 : 0 ≤ p) (h1 : p ≤ long) : placeK up long p q 0 = p := by
  unfold placeK
  cases up <;> simp <;> omega
theorem kq_succ (k : Nat) (q : Int) : ((k + 1 : Nat) : Int) * q = k * q + q := by
  rw [Int.natCast_add, Int.add_mul]; simp
theorem kq_nonneg (k : Nat) {q : Int} (h : 0 ≤ q) : 0 ≤ (k : Int) * q := Int.mul_nonneg (by omega) h
theorem placeK_rng {up : Bool} {long p q : Int} (k : Nat) (h0 : 0 ≤ p) (h1 : p ≤ long) (hq : 0 ≤ q) : 0 ≤ placeK up long p q k ∧ placeK up long p q k ≤ long := by
  have := kq_nonneg k hq
  unfold placeK
  cases up <;> simp <;> split <;> omega
theorem placeK_succ {t : Train} {w : Way} {r : Reach} {p q : Int} (k : Nat) (h0 : 0 ≤ p) (h1 : p ≤ w.Long) (ht : TrainOk t = true) (hw : WayOk w = true) (hr : ReachOk r = true) (hq : PaceOf t (DepthIn w r) = q) (hq0 : 0 ≤ q) :
    MoveOne ⟨t, placeK t.Up w.Long p q k⟩ w r = ⟨t, placeK t.Up w.Long p q (k + 1)⟩ := by
  have hk := kq_nonneg k hq0
  have hs := kq_succ k q
  have hr1 := placeK_rng (up := t.Up) k h0 h1 hq0
  have hm : MoverOk ⟨t, placeK t.Up w.Long p q k⟩ w = true := by
    simp only [MoverOk, hw, ht, Bool.true_and]; exact inRange_iff.2 hr1
  unfold MoveOne
  rw [hm, hr, if_pos (by simp)]
  congr 1
  unfold newPlace
  simp only [hq]
  unfold placeK
  rw [hs]
  generalize (k : Int) * q = kq at *
  cases t.Up <;> simp
  · by_cases h2 : p + kq < w.Long
    · rw [if_pos h2]
      by_cases h3 : p + kq + q < w.Long
      · rw [if_pos h3, if_pos (by omega)]; omega
      · rw [if_neg h3, if_neg (by omega)]
    · rw [if_neg h2, if_neg (by omega), if_neg (by omega)]
  · by_cases h2 : kq < p
    · rw [if_pos h2]
      by_cases h3 : kq + q < p
      · rw [if_pos h3, if_pos (by omega)]; omega
      · rw [if_neg h3, if_neg (by omega)]
    · rw [if_neg h2, if_neg (by omega), if_neg (by omega)]
theorem placeK_ok {t : Train} {w : Way} {p q : Int} (k : Nat) (h0 : 0 ≤ p) (h1 : p ≤ w.Long) (ht : TrainOk t = true) (hw : WayOk w = true) (hq : 0 ≤ q) : MoverOk ⟨t, placeK t.Up w.Long p q k⟩ w = true := by
  simp only [MoverOk, hw, ht, Bool.true_and]; exact inRange_iff.2 (placeK_rng k h0 h1 hq)
theorem placeK_end {t : Train} {w : Way} {p q : Int} (k : Nat) (h0 : 0 ≤ p) (h1 : p ≤ w.Long) (ht : TrainOk t = true) (hw : WayOk w = true) (hq : 0 ≤ q) :
    (AtEnd ⟨t, placeK t.Up w.Long p q k⟩ w = true ↔ leftOf ⟨t, p⟩ w ≤ k * q) := by
  unfold AtEnd
  rw [placeK_ok k h0 h1 ht hw hq]
  have hk := kq_nonneg k hq
  simp only [Bool.true_and, decide_eq_true_eq]
  unfold endOf leftOf placeK
  generalize (k : Int) * q = kq at *
  cases t.Up <;> simp <;> omega
theorem time_ceil {l q : Int} (h0 : 0 < l) (hq : 0 < q) : ∃ n : Nat, (l + q - 1).tdiv q = (n : Int) ∧ l ≤ n * q ∧ ∀ k : Nat, k < n → (k : Int) * q < l := by
  have e1 : (l + q - 1).tdiv q = (l + q - 1) / q := Int.tdiv_eq_ediv_of_nonneg (by omega)
  have e2 : 0 ≤ (l + q - 1) / q := Int.ediv_nonneg (by omega) (by omega)
  have e3 := Int.mul_ediv_add_emod (l + q - 1) q
  have e4 := Int.emod_nonneg (l + q - 1) (show q ≠ 0 by omega)
  have e5 := Int.emod_lt_of_pos (l + q - 1) hq
  refine ⟨((l + q - 1) / q).toNat, by rw [e1]; omega, ?_, fun k hk => ?_⟩
  · rw [Int.toNat_of_nonneg e2, Int.mul_comm]; omega
  · have h1 : (k : Int) + 1 ≤ (l + q - 1) / q := by omega
    have h2 := Int.mul_le_mul_of_nonneg_right h1 (show 0 ≤ q by omega)
    rw [Int.add_mul, Int.one_mul, Int.mul_comm ((l + q - 1) / q) q] at h2
    omega
def NewReach (t : List Point) (level : Int) (delay : Int) : Reach × Bool :=
  if inRange delay 0 12 then (if ReachOk ⟨t, ValueAt t level, List.replicate delay.toNat 0⟩ then (⟨t, ValueAt t level, List.replicate delay.toNat 0⟩, true) else (⟨[], 0, []⟩, false)) else (⟨[], 0, []⟩, false)
set_option maxRecDepth 4000 in
theorem NewReach_o (t : List Point) (level delay : Int) (hl : t.length ≤ 1048576) : OwnF Try.prog n_spec_NewReach [.c (.sl 2 (t.map Point.enc)), .c (.i level), .c (.i delay)] (.tup [.agg ((NewReach t level delay).1.oenc.map .c), .c (.b (NewReach t level delay).2)]) := by
  refine own_of h_spec_NewReach (by simp) fun hwf => ?_
  simp -dsimp -implicitDefEqProofs [c_spec_NewReach]
  first
    | refine call_lend (inRange_spec delay 0 12) (by simp) rfl ?_
    | refine call_pure (inRange_spec delay 0 12) (by simp) rfl ?_
    | refine ⟨_, _, inRange_spec delay 0 12, by simp, .inr rfl, ?_⟩
    | refine ⟨_, _, inRange_spec delay 0 12, by simp, .inl rfl, ?_⟩
    | refine callE_pure (inRange_spec delay 0 12) (by simp) (.inr rfl) ?_
    | refine callE_pure (inRange_spec delay 0 12) (by simp) (.inl rfl) ?_
  simp -dsimp -implicitDefEqProofs
  cases h1 : inRange delay 0 12 with
  | false =>
    simp -dsimp -implicitDefEqProofs
    have e : NewReach t level delay = (⟨[], 0, []⟩, false) := by simp [NewReach, h1]
    rw [e]
    refine ownP_two ?_
    simp
  | true =>
    have h2 := inRange_iff.1 h1
    simp -dsimp -implicitDefEqProofs
    refine ⟨by omega, ?_⟩
    first
      | refine call_lend (ValueAt_spec t level) (by simp) rfl ?_
      | refine call_pure (ValueAt_spec t level) (by simp) rfl ?_
      | refine ⟨_, _, ValueAt_spec t level, by simp, .inr rfl, ?_⟩
      | refine ⟨_, _, ValueAt_spec t level, by simp, .inl rfl, ?_⟩
      | refine callE_pure (ValueAt_spec t level) (by simp) (.inr rfl) ?_
      | refine callE_pure (ValueAt_spec t level) (by simp) (.inl rfl) ?_
    simp -dsimp -implicitDefEqProofs
    refine ⟨h2.1, by omega, ?_⟩
    first
      | refine call_lend (ReachOk_spec ⟨t, ValueAt t level, List.replicate delay.toNat 0⟩) (by simp [take_full, ienc]) rfl ?_
      | refine call_pure (ReachOk_spec ⟨t, ValueAt t level, List.replicate delay.toNat 0⟩) (by simp [take_full, ienc]) rfl ?_
      | refine ⟨_, _, ReachOk_spec ⟨t, ValueAt t level, List.replicate delay.toNat 0⟩, by simp [take_full, ienc], .inr rfl, ?_⟩
      | refine ⟨_, _, ReachOk_spec ⟨t, ValueAt t level, List.replicate delay.toNat 0⟩, by simp [take_full, ienc], .inl rfl, ?_⟩
      | refine callE_pure (ReachOk_spec ⟨t, ValueAt t level, List.replicate delay.toNat 0⟩) (by simp [take_full, ienc]) (.inr rfl) ?_
      | refine callE_pure (ReachOk_spec ⟨t, ValueAt t level, List.replicate delay.toNat 0⟩) (by simp [take_full, ienc]) (.inl rfl) ?_
    have e : NewReach t level delay = if ReachOk ⟨t, ValueAt t level, List.replicate delay.toNat 0⟩ then (⟨t, ValueAt t level, List.replicate delay.toNat 0⟩, true) else (⟨[], 0, []⟩, false) := by simp [NewReach, h1]
    rw [e]
    cases hr : ReachOk ⟨t, ValueAt t level, List.replicate delay.toNat 0⟩ with
    | false =>
      simp -dsimp -implicitDefEqProofs
      refine ownP_two ?_
      simp
    | true =>
      simp -dsimp -implicitDefEqProofs
      refine ownP_two ?_
      simp [take_full, ienc]
theorem bytes_of {x : List Nat} (h : (C.sl 1 (x.map nenc)).WF) : ∃ code : List UInt8, x.map nenc = code.map uenc := by
  simp only [C.WF] at h
  refine ⟨x.map fun n => UInt8.ofNat n, ?_⟩
  rw [List.map_map]
  apply List.map_congr_left
  intro n hn
  have h1 := (h.2 _ (List.mem_map_of_mem hn)).2 (.u n) (by simp [nenc])
  simp only [C.WF] at h1
  simp [nenc, uenc, Nat.mod_eq_of_lt h1]
theorem big_c (code : List UInt8) : PureF Try.prog n_laws_big [.c (.sl 1 (code.map uenc))] (.c (.b (decide (1048576 < code.length)))) := by
  refine pure_of h_laws_big (by simp) fun hwf => ?_
  simp -dsimp -implicitDefEqProofs [c_laws_big]
  intro _
  omega
theorem FnSailing_c (x0 : List Nat) : PureF Try.prog n_laws_FnSailing [.c (.sl 1 (x0.map nenc))] (.c (.b true)) := by
  refine pure_of h_laws_FnSailing (by simp) fun hwf => ?_
  obtain ⟨code, hcode⟩ := bytes_of (x := x0) hwf.1
  rw [hcode]
  clear hwf
  simp -dsimp -implicitDefEqProofs [c_laws_FnSailing]
  first
    | refine call_lend (big_c code) (by simp) rfl ?_
    | refine call_pure (big_c code) (by simp) rfl ?_
    | refine ⟨_, _, big_c code, by simp, .inr rfl, ?_⟩
    | refine ⟨_, _, big_c code, by simp, .inl rfl, ?_⟩
    | refine callE_pure (big_c code) (by simp) (.inr rfl) ?_
    | refine callE_pure (big_c code) (by simp) (.inl rfl) ?_
  simp -dsimp -implicitDefEqProofs
  intro hl
  obtain ⟨t1, t2, t3⟩ := drawnTrain_ok code
  first
    | refine call_lend (DrawTrain_p code hl) (by simp) rfl ?_
    | refine call_pure (DrawTrain_p code hl) (by simp) rfl ?_
    | refine ⟨_, _, DrawTrain_p code hl, by simp, .inr rfl, ?_⟩
    | refine ⟨_, _, DrawTrain_p code hl, by simp, .inl rfl, ?_⟩
    | refine callE_pure (DrawTrain_p code hl) (by simp) (.inr rfl) ?_
    | refine callE_pure (DrawTrain_p code hl) (by simp) (.inl rfl) ?_
  simp -dsimp -implicitDefEqProofs
  first
    | refine call_lend (DrawWay_p code hl) (by simp) rfl ?_
    | refine call_pure (DrawWay_p code hl) (by simp) rfl ?_
    | refine ⟨_, _, DrawWay_p code hl, by simp, .inr rfl, ?_⟩
    | refine ⟨_, _, DrawWay_p code hl, by simp, .inl rfl, ?_⟩
    | refine callE_pure (DrawWay_p code hl) (by simp) (.inr rfl) ?_
    | refine callE_pure (DrawWay_p code hl) (by simp) (.inl rfl) ?_
  simp -dsimp -implicitDefEqProofs
  generalize drawnTrain code = t at *
  have hw : WayOk (drawnWay code) = true ∧ 1 ≤ (drawnWay code).Long ∧ (drawnWay code).Long ≤ 200 ∧ 0 ≤ (drawnWay code).Bed ∧ (drawnWay code).Bed ≤ 59 := by
    have h1 := pickV_mem (code := code) (l := wayL) (p := (0, hash code)) (by simp [wayL])
    have h2 := belowV_rng (code := code) (n := 60) (p := pickN code wayL (0, hash code)) (by omega)
    have h3 : 1 ≤ pickV code wayL (0, hash code) ∧ pickV code wayL (0, hash code) ≤ 200 := by
      revert h1
      generalize pickV code wayL (0, hash code) = v
      intro h1
      simp [wayL] at h1; omega
    refine ⟨?_, h3.1, h3.2, h2.1, by simp only [drawnWay, wayV]; omega⟩
    simp only [WayOk, drawnWay, wayV, Bool.and_eq_true]
    exact ⟨inRange_iff.2 ⟨h3.1, by omega⟩, inRange_iff.2 ⟨h2.1, by omega⟩⟩
  generalize drawnWay code = w at *
  obtain ⟨w1, w2, w3, w4, w5⟩ := hw
  have a0 := atV_rng code 0
  have a1 := atV_rng code 1
  first
    | refine call_lend (at_c code 0 (by omega)) (by simp) rfl ?_
    | refine call_pure (at_c code 0 (by omega)) (by simp) rfl ?_
    | refine ⟨_, _, at_c code 0 (by omega), by simp, .inr rfl, ?_⟩
    | refine ⟨_, _, at_c code 0 (by omega), by simp, .inl rfl, ?_⟩
    | refine callE_pure (at_c code 0 (by omega)) (by simp) (.inr rfl) ?_
    | refine callE_pure (at_c code 0 (by omega)) (by simp) (.inl rfl) ?_
  simp -dsimp -implicitDefEqProofs
  generalize hd : (atV code 0).tmod 60 = d at *
  have d1 : 0 ≤ d ∧ d ≤ 59 := by rw [← hd, Int.tmod_eq_emod_of_nonneg a0.1]; omega
  have hN := NewReach_o sailT (w.Bed + d) 0 (by simp [sailT])
  have eN : NewReach sailT (w.Bed + d) 0 = (sailR (w.Bed + d), true) := by
    have h1 : ValueAt sailT (w.Bed + d) = 1000 * (w.Bed + d) := sailT_val (by omega) (by omega)
    have h2 := sailR_ok (l := w.Bed + d) (by omega) (by omega)
    have h3 : inRange 0 0 12 = true := by decide
    unfold sailR at h2 ⊢
    simp only [NewReach, h3, if_true, h1, Int.toNat_zero, List.replicate_zero, h2]
  rw [eN] at hN
  have hro := sailR_ok (l := w.Bed + d) (by omega) (by omega)
  have hdep := sailR_depth w1 d1.1 (by omega) (by omega)
  have hN' : OwnF Try.prog n_spec_NewReach [.c (.sl 2 [[.i 0, .i 0], [.i 500, .i 500000]]), .c (.i (w.Bed + d)), .c (.i 0)] (.tup [.agg [.c (.ow 2 (sailT.map Point.enc)), .c (.i (1000 * (w.Bed + d))), .c (.ow 1 [])], .c (.b true)]) := hN
  refine ⟨by unfold inI; omega, by unfold inI; omega, ?_⟩
  refine callE_own hN' (by simp) (by simp [AV.closed, AV.closed1, C.closed]) (by simp [freshO]) ?_
  simp -dsimp -implicitDefEqProofs
  first
    | refine call_lend (at_c code 1 (by omega)) (by simp) rfl ?_
    | refine call_pure (at_c code 1 (by omega)) (by simp) rfl ?_
    | refine ⟨_, _, at_c code 1 (by omega), by simp, .inr rfl, ?_⟩
    | refine ⟨_, _, at_c code 1 (by omega), by simp, .inl rfl, ?_⟩
    | refine callE_pure (at_c code 1 (by omega)) (by simp) (.inr rfl) ?_
    | refine callE_pure (at_c code 1 (by omega)) (by simp) (.inl rfl) ?_
  simp -dsimp -implicitDefEqProofs
  generalize hp : (atV code 1).tmod (w.Long + 1) = p at *
  have p1 : 0 ≤ p ∧ p ≤ w.Long := by
    rw [← hp, Int.tmod_eq_emod_of_nonneg a1.1]
    have := Int.emod_nonneg (atV code 1) (show w.Long + 1 ≠ 0 by omega)
    have := Int.emod_lt_of_pos (atV code 1) (show 0 < w.Long + 1 by omega)
    omega
  refine ⟨by unfold inI; omega, by omega, by unfold inI; omega, ?_⟩
  first
    | refine call_lend (TimeTo_impl ⟨t, p⟩ w (sailR (w.Bed + d)) t2) (by simp [sailR, take_full]) rfl ?_
    | refine call_pure (TimeTo_impl ⟨t, p⟩ w (sailR (w.Bed + d)) t2) (by simp [sailR, take_full]) rfl ?_
    | refine ⟨_, _, TimeTo_impl ⟨t, p⟩ w (sailR (w.Bed + d)) t2, by simp [sailR, take_full], .inr rfl, ?_⟩
    | refine ⟨_, _, TimeTo_impl ⟨t, p⟩ w (sailR (w.Bed + d)) t2, by simp [sailR, take_full], .inl rfl, ?_⟩
    | refine callE_pure (TimeTo_impl ⟨t, p⟩ w (sailR (w.Bed + d)) t2) (by simp [sailR, take_full]) (.inr rfl) ?_
    | refine callE_pure (TimeTo_impl ⟨t, p⟩ w (sailR (w.Bed + d)) t2) (by simp [sailR, take_full]) (.inl rfl) ?_
  have hq := pace_zero t1 d1.1 (show d ≤ 1000 by omega)
  have hq2 : PaceOf t (DepthIn w (sailR (w.Bed + d))) = PaceOf t d := by rw [hdep]
  have hmo : MoverOk ⟨t, p⟩ w = true := by
    simp only [MoverOk, w1, t1, Bool.true_and]; exact inRange_iff.2 p1
  have hL : 0 ≤ leftOf ⟨t, p⟩ w := by unfold leftOf; split <;> simp only <;> omega
  have hT : ∃ n : Int, TimeTo ⟨t, p⟩ w (sailR (w.Bed + d)) = n ∧ ((n = -1 ∧ PaceOf t d = 0 ∧ 0 < leftOf ⟨t, p⟩ w) ∨ (∃ N : Nat, n = N ∧ leftOf ⟨t, p⟩ w ≤ N * PaceOf t d ∧ (∀ k : Nat, k < N → (k : Int) * PaceOf t d < leftOf ⟨t, p⟩ w) ∧ (N : Int) ≤ 1000000 ∧ (PaceOf t d = 0 → leftOf ⟨t, p⟩ w = 0))) := by
    refine ⟨_, rfl, ?_⟩
    rw [TimeTo_yes hmo hro rfl]
    simp only [hq2]
    by_cases e1 : leftOf ⟨t, p⟩ w = 0
    · rw [if_pos e1]; exact .inr ⟨0, rfl, by rw [e1]; simp, fun k hk => by omega, by omega, fun _ => e1⟩
    · rw [if_neg e1]
      by_cases e2 : PaceOf t d = 0
      · rw [if_pos e2]; exact .inl ⟨rfl, e2, by omega⟩
      · rw [if_neg e2]
        obtain ⟨N, f1, f2, f3⟩ := time_ceil (l := leftOf ⟨t, p⟩ w) (q := PaceOf t d) (by omega) (by omega)
        refine .inr ⟨N, f1, f2, f3, ?_, fun h => absurd h e2⟩
        have hL2 : leftOf ⟨t, p⟩ w ≤ 200 := by unfold leftOf; split <;> simp only <;> omega
        have := (ratio_in (l := leftOf ⟨t, p⟩ w) (p := PaceOf t d) hL (by omega) hq.2.1 hq.2.2 e2).2.2
        rw [← f1, Int.tdiv_eq_ediv_of_nonneg (by omega)]
        have := Int.ediv_le_self (PaceOf t d) (show 0 ≤ leftOf ⟨t, p⟩ w + PaceOf t d - 1 by omega)
        omega
  obtain ⟨n, hn, hT⟩ := hT
  rw [hn]
  simp -dsimp -implicitDefEqProofs
  first
    | refine call_lend (DepthIn_impl w (sailR (w.Bed + d))) (by simp [sailR, take_full]) rfl ?_
    | refine call_pure (DepthIn_impl w (sailR (w.Bed + d))) (by simp [sailR, take_full]) rfl ?_
    | refine ⟨_, _, DepthIn_impl w (sailR (w.Bed + d)), by simp [sailR, take_full], .inr rfl, ?_⟩
    | refine ⟨_, _, DepthIn_impl w (sailR (w.Bed + d)), by simp [sailR, take_full], .inl rfl, ?_⟩
    | refine callE_pure (DepthIn_impl w (sailR (w.Bed + d))) (by simp [sailR, take_full]) (.inr rfl) ?_
    | refine callE_pure (DepthIn_impl w (sailR (w.Bed + d))) (by simp [sailR, take_full]) (.inl rfl) ?_
  rw [hdep]
  simp -dsimp -implicitDefEqProofs
  first
    | refine call_lend (DraughtOf_spec t t2) (by simp) rfl ?_
    | refine call_pure (DraughtOf_spec t t2) (by simp) rfl ?_
    | refine ⟨_, _, DraughtOf_spec t t2, by simp, .inr rfl, ?_⟩
    | refine ⟨_, _, DraughtOf_spec t t2, by simp, .inl rfl, ?_⟩
    | refine callE_pure (DraughtOf_spec t t2) (by simp) (.inr rfl) ?_
    | refine callE_pure (DraughtOf_spec t t2) (by simp) (.inl rfl) ?_
  simp -dsimp -implicitDefEqProofs
  have hG := GroundedOf_impl [⟨t, p⟩] w (sailR (w.Bed + d)) ⟨by simp, by simp; exact t2⟩
  have eG : (GroundedOf [⟨t, p⟩] w (sailR (w.Bed + d))).length = if PaceOf t d = 0 then 1 else 0 := by
    unfold GroundedOf
    rw [w1, hro, if_pos (by simp)]
    simp only [List.filter_cons, grounded, hmo, hq2, List.filter_nil, Bool.true_and]
    by_cases e : PaceOf t d = 0 <;> simp [e]
  generalize GroundedOf [⟨t, p⟩] w (sailR (w.Bed + d)) = gl at *
  refine call_own hG (by simp [sailR, take_full]) (by simp [AV.closed, AV.closed1, C.closed, ienc]) (by simp [freshO]) ?_
  simp -dsimp -implicitDefEqProofs
  have hnb : -1 ≤ n ∧ n ≤ 1000000 := by
    rcases hT with ⟨e, _⟩ | ⟨N, e, _, _, e4, _⟩ <;> omega
  refine loop_rule (ι := Nat) (fun k => (k : Int) ≤ max n 0) (fun k => stOf [(3, .box 3 0), (4, .box 4 0), (5, .box 5 0), (7, .box 7 0), (8, .c (.i n)), (9, .c (.b (decide (DraughtOf t ≤ d)))), (10, .own 54 1 gl.length), (11, .c (.i k))]
    [(3, .box [.c (.b t.Up), .c (.sl 1 (t.Rows.map enc_BoatS))]), (4, .box [.c (.i w.Long), .c (.i w.Bed)]), (5, .box [.own 10010029 2 sailT.length, .c (.i (1000 * (w.Bed + d))), .own 10030029 1 0]),
     (7, .box [.c (.b t.Up), .c (.sl 1 (t.Rows.map enc_BoatS)), .c (.i (placeK t.Up w.Long p (PaceOf t d) k))]), (10010029, .row 2 (sailT.map Point.enc)), (10030029, .row 1 []), (54, .row 1 (gl.map ienc))]) (fun k => n.toNat - k) 0 (by simp; omega) (by rw [placeK_zero p1.1 p1.2]; apply le_of <;> simp [AV.refs1, AV.ref0, Obj.refs1]) ?_
  rintro k hk
  have hpk := placeK_rng (up := t.Up) k p1.1 p1.2 hq.2.1
  have hend := placeK_end (t := t) (w := w) k p1.1 p1.2 t1 w1 hq.2.1
  have hok := placeK_ok (t := t) (w := w) (k + 1) p1.1 p1.2 t1 w1 hq.2.1
  have hsuc := placeK_succ (t := t) (w := w) (r := sailR (w.Bed + d)) k p1.1 p1.2 t1 w1 hro hq2 hq.2.1
  have hM := MoveOne_implP ⟨t, placeK t.Up w.Long p (PaceOf t d) k⟩ w (sailR (w.Bed + d)) t2
  have hMo := MoveOne_impl ⟨t, placeK t.Up w.Long p (PaceOf t d) k⟩ w (sailR (w.Bed + d)) t2
  rw [hsuc] at hM hMo
  have hA := AtEnd_impl ⟨t, placeK t.Up w.Long p (PaceOf t d) k⟩ w t2
  by_cases hkn : (k : Int) < n
  · have hnot : AtEnd ⟨t, placeK t.Up w.Long p (PaceOf t d) k⟩ w = false := by
      rcases hT with ⟨e, _⟩ | ⟨N, e, _, e3, _⟩
      · omega
      · have := e3 k (by omega)
        cases hh : AtEnd ⟨t, placeK t.Up w.Long p (PaceOf t d) k⟩ w with
        | false => rfl
        | true => have := hend.1 hh; omega
    rw [hnot] at hA
    have hkt : ((k : Int) < n) = True := by simp [hkn]
    simp -dsimp -implicitDefEqProofs [hkt]
    first
      | refine call_lend (hA) (by simp) rfl ?_
      | refine call_pure (hA) (by simp) rfl ?_
      | refine ⟨_, _, hA, by simp, .inr rfl, ?_⟩
      | refine ⟨_, _, hA, by simp, .inl rfl, ?_⟩
      | refine callE_pure (hA) (by simp) (.inr rfl) ?_
      | refine callE_pure (hA) (by simp) (.inl rfl) ?_
    simp -dsimp -implicitDefEqProofs
    refine call_fresh (y := .agg ((⟨t, placeK t.Up w.Long p (PaceOf t d) (k + 1)⟩ : Mover).enc.map .c)) hMo (by simp [sailR, take_full]) (by simp [AV.closed, AV.closed1, C.closed, eo_BoatS]) (by simp [AV.shr, AV.shr1, shrl, cshr_ot eo_BoatS_shr]) ?_
    simp -dsimp -implicitDefEqProofs
    first
      | refine call_lend (MoverOk_impl ⟨t, placeK t.Up w.Long p (PaceOf t d) (k + 1)⟩ w t2) (by simp) rfl ?_
      | refine call_pure (MoverOk_impl ⟨t, placeK t.Up w.Long p (PaceOf t d) (k + 1)⟩ w t2) (by simp) rfl ?_
      | refine ⟨_, _, MoverOk_impl ⟨t, placeK t.Up w.Long p (PaceOf t d) (k + 1)⟩ w t2, by simp, .inr rfl, ?_⟩
      | refine ⟨_, _, MoverOk_impl ⟨t, placeK t.Up w.Long p (PaceOf t d) (k + 1)⟩ w t2, by simp, .inl rfl, ?_⟩
      | refine callE_pure (MoverOk_impl ⟨t, placeK t.Up w.Long p (PaceOf t d) (k + 1)⟩ w t2) (by simp) (.inr rfl) ?_
      | refine callE_pure (MoverOk_impl ⟨t, placeK t.Up w.Long p (PaceOf t d) (k + 1)⟩ w t2) (by simp) (.inl rfl) ?_
    rw [hok]
    simp -dsimp -implicitDefEqProofs
    clear hT
    refine ⟨by unfold inI; omega, k + 1, by omega, by omega, ?_⟩
    apply le_of <;> simp [AV.refs1, AV.ref0, Obj.refs1]
  · have hkt : ((k : Int) < n) = False := by simp; omega
    simp -dsimp -implicitDefEqProofs [hkt]
    refine call_fresh (y := .agg ((⟨t, placeK t.Up w.Long p (PaceOf t d) (k + 1)⟩ : Mover).enc.map .c)) hMo (by simp [sailR, take_full]) (by simp [AV.closed, AV.closed1, C.closed, eo_BoatS]) (by simp [AV.shr, AV.shr1, shrl, cshr_ot eo_BoatS_shr]) ?_
    simp -dsimp -implicitDefEqProofs
    have hAv : AtEnd ⟨t, placeK t.Up w.Long p (PaceOf t d) k⟩ w = decide (0 ≤ n) := by
      rcases hT with ⟨e, e2, e3⟩ | ⟨N, e, e2, _, _, _⟩
      · have hn0 : ¬ (0 ≤ n) := by omega
        rw [e2, Int.mul_zero] at hend
        cases hh : AtEnd ⟨t, placeK t.Up w.Long p (PaceOf t d) k⟩ w with
        | false => simp [hn0]
        | true => rw [e2] at hh; have := hend.1 hh; omega
      · have : k = N := by omega
        subst this
        rw [hend.2 e2]; simp; omega
    have hfull := pace_full t1 t3
    have hneg : n < 0 → PaceOf t d = 0 := fun h => by
      rcases hT with ⟨e, e2, e3⟩ | ⟨N, e, _⟩
      · exact e2
      · omega
    have hzero : PaceOf t d = 0 → placeK t.Up w.Long p (PaceOf t d) (k + 1) = placeK t.Up w.Long p (PaceOf t d) k := fun h => by
      unfold placeK; rw [h]; simp
    clear hT
    have hp100 := PaceOf_impl t 100 t2
    have hsp := SpeedOf_spec t t2
    rw [hfull] at hp100
    rw [hAv] at hA
    have hg1 : gl.length = 1 ↔ d < DraughtOf t := by
      rw [eG]
      by_cases e : PaceOf t d = 0
      · rw [if_pos e]; exact ⟨fun _ => hq.1.1 e, fun _ => rfl⟩
      · rw [if_neg e]; exact ⟨fun h => by omega, fun h => absurd (hq.1.2 h) e⟩
    have hg1' : ((gl.length : Int) = 1) = (d < DraughtOf t) := by rw [← propext hg1]; simp; omega
    have hl2 : gl.length ≤ maxLen := by rw [eG]; unfold maxLen; split <;> omega
    by_cases hdp : d < DraughtOf t
    · have q0 := hq.1.2 hdp
      have hz := hzero q0
      have nd : ¬ DraughtOf t ≤ d := by omega
      have hdt : (d < DraughtOf t) = True := by simp [hdp]
      have ndt : (DraughtOf t ≤ d) = False := by simp [nd]
      rw [hdt] at hg1'
      rcases Int.lt_or_le n 0 with hn0 | hn0
      · have e1 : (n < 0) = True := by simp [hn0]
        have e2 : (0 ≤ n) = False := by simp; omega
        simp -dsimp -implicitDefEqProofs [hdt, ndt, e1, e2]
        first
          | refine call_lend (hA) (by simp) rfl ?_
          | refine call_pure (hA) (by simp) rfl ?_
          | refine ⟨_, _, hA, by simp, .inr rfl, ?_⟩
          | refine ⟨_, _, hA, by simp, .inl rfl, ?_⟩
          | refine callE_pure (hA) (by simp) (.inr rfl) ?_
          | refine callE_pure (hA) (by simp) (.inl rfl) ?_
        simp -dsimp -implicitDefEqProofs [hdt, ndt, e1, e2, hz]
        intro _
        simp -dsimp -implicitDefEqProofs [hg1', hdt, ndt, e1, e2]
        first
          | refine call_lend (hp100) (by simp) rfl ?_
          | refine call_pure (hp100) (by simp) rfl ?_
          | refine ⟨_, _, hp100, by simp, .inr rfl, ?_⟩
          | refine ⟨_, _, hp100, by simp, .inl rfl, ?_⟩
          | refine callE_pure (hp100) (by simp) (.inr rfl) ?_
          | refine callE_pure (hp100) (by simp) (.inl rfl) ?_
        simp -dsimp -implicitDefEqProofs
        first
          | refine call_lend (hsp) (by simp) rfl ?_
          | refine call_pure (hsp) (by simp) rfl ?_
          | refine ⟨_, _, hsp, by simp, .inr rfl, ?_⟩
          | refine ⟨_, _, hsp, by simp, .inl rfl, ?_⟩
          | refine callE_pure (hsp) (by simp) (.inr rfl) ?_
          | refine callE_pure (hsp) (by simp) (.inl rfl) ?_
        simp -dsimp -implicitDefEqProofs
      · have e1 : (n < 0) = False := by simp; omega
        have e2 : (0 ≤ n) = True := by simp; omega
        simp -dsimp -implicitDefEqProofs [hdt, ndt, e1, e2]
        first
          | refine call_lend (hA) (by simp) rfl ?_
          | refine call_pure (hA) (by simp) rfl ?_
          | refine ⟨_, _, hA, by simp, .inr rfl, ?_⟩
          | refine ⟨_, _, hA, by simp, .inl rfl, ?_⟩
          | refine callE_pure (hA) (by simp) (.inr rfl) ?_
          | refine callE_pure (hA) (by simp) (.inl rfl) ?_
        simp -dsimp -implicitDefEqProofs [hdt, ndt, e1, e2, hz]
        first
          | refine call_lend (hA) (by simp) rfl ?_
          | refine call_pure (hA) (by simp) rfl ?_
          | refine ⟨_, _, hA, by simp, .inr rfl, ?_⟩
          | refine ⟨_, _, hA, by simp, .inl rfl, ?_⟩
          | refine callE_pure (hA) (by simp) (.inr rfl) ?_
          | refine callE_pure (hA) (by simp) (.inl rfl) ?_
        simp -dsimp -implicitDefEqProofs [hdt, ndt, e1, e2, hz]
        intro _
        simp -dsimp -implicitDefEqProofs [hg1', hdt, ndt, e1, e2]
        first
          | refine call_lend (hp100) (by simp) rfl ?_
          | refine call_pure (hp100) (by simp) rfl ?_
          | refine ⟨_, _, hp100, by simp, .inr rfl, ?_⟩
          | refine ⟨_, _, hp100, by simp, .inl rfl, ?_⟩
          | refine callE_pure (hp100) (by simp) (.inr rfl) ?_
          | refine callE_pure (hp100) (by simp) (.inl rfl) ?_
        simp -dsimp -implicitDefEqProofs
        first
          | refine call_lend (hsp) (by simp) rfl ?_
          | refine call_pure (hsp) (by simp) rfl ?_
          | refine ⟨_, _, hsp, by simp, .inr rfl, ?_⟩
          | refine ⟨_, _, hsp, by simp, .inl rfl, ?_⟩
          | refine callE_pure (hsp) (by simp) (.inr rfl) ?_
          | refine callE_pure (hsp) (by simp) (.inl rfl) ?_
        simp -dsimp -implicitDefEqProofs
    · have nd : DraughtOf t ≤ d := by omega
      have hdt : (d < DraughtOf t) = False := by simp; omega
      have ndt : (DraughtOf t ≤ d) = True := by simp [nd]
      rw [hdt] at hg1'
      rcases Int.lt_or_le n 0 with hn0 | hn0
      · exact absurd (hq.1.1 (hneg hn0)) hdp
      · have e1 : (n < 0) = False := by simp; omega
        have e2 : (0 ≤ n) = True := by simp; omega
        simp -dsimp -implicitDefEqProofs [hdt, ndt, e1, e2]
        first
          | refine call_lend (hA) (by simp) rfl ?_
          | refine call_pure (hA) (by simp) rfl ?_
          | refine ⟨_, _, hA, by simp, .inr rfl, ?_⟩
          | refine ⟨_, _, hA, by simp, .inl rfl, ?_⟩
          | refine callE_pure (hA) (by simp) (.inr rfl) ?_
          | refine callE_pure (hA) (by simp) (.inl rfl) ?_
        simp -dsimp -implicitDefEqProofs [hdt, ndt, e1, e2]
        intro _
        simp -dsimp -implicitDefEqProofs [hg1', hdt, ndt, e1, e2]
        first
          | refine call_lend (hp100) (by simp) rfl ?_
          | refine call_pure (hp100) (by simp) rfl ?_
          | refine ⟨_, _, hp100, by simp, .inr rfl, ?_⟩
          | refine ⟨_, _, hp100, by simp, .inl rfl, ?_⟩
          | refine callE_pure (hp100) (by simp) (.inr rfl) ?_
          | refine callE_pure (hp100) (by simp) (.inl rfl) ?_
        simp -dsimp -implicitDefEqProofs
        first
          | refine call_lend (hsp) (by simp) rfl ?_
          | refine call_pure (hsp) (by simp) rfl ?_
          | refine ⟨_, _, hsp, by simp, .inr rfl, ?_⟩
          | refine ⟨_, _, hsp, by simp, .inl rfl, ?_⟩
          | refine callE_pure (hsp) (by simp) (.inr rfl) ?_
          | refine callE_pure (hsp) (by simp) (.inl rfl) ?_
        simp -dsimp -implicitDefEqProofs
theorem nenc_fit {xs : List C} (h : Fits [.u] xs) : ∃ n : Nat, xs = nenc n := by
  obtain ⟨c0, ys, rfl, h0, h⟩ := h.cons_inv
  obtain rfl := h.nil_inv
  obtain ⟨n0, rfl⟩ := h0.u_inv
  exact ⟨n0, rfl⟩
theorem isLaw_FnSailing : IsLaw Rows.fnSailingSpec Try.f3.params.size := by
  refine ⟨rfl, fun H ds h => ?_⟩
  match ds, h with
  | [d0], _ => rfl
theorem lawFacts_FnSailing : LawFacts Try.prog Try.f3 (Try.f3.resultTypes.getD 0 0) [(false, [.sl [.u]])] :=
  ⟨fact_laid, by kernel_rfl, by kernel_rfl, by kernel_rfl, by kernel_rfl⟩
set_option maxRecDepth 100000 in
theorem lifted_FnSailing (os : Os) (started : os.Started) (H : Type) (enc : TypeId × Value → H) :
    ReturnsInHanded {} Try.checked os 3 .any (Rows.fnSailingSpec.pre6 enc Try.prog Try.f3 Rows.fnSailingRow.domain false) (Rows.fnSailingSpec.post enc Try.prog Try.f3 false true false false) := by
  refine law_lifted (C := Try.checked) fact_own started (by kernel_rfl) Try.func3
    (ChangeSpec.witness6 (enc := enc) (C := Try.checked) false ⟨#[], #[.slice none 0 0], []⟩ 8 (by kernel_rfl) (by kernel_rfl) (by kernel_rfl) (by kernel_rfl)) isLaw_FnSailing lawFacts_FnSailing ?_
  rintro avs ⟨a, avs0, rfl, ha, rfl⟩
  cases ha with
  | one h0 =>
    obtain ⟨x0, rfl⟩ := h0.sl_inv nenc fun xs h => nenc_fit h
    exact FnSailing_c x0
theorem facts_FnSailing : rowFacts Try.prog 3 Try.f3 Rows.fnSailingSpec Rows.fnSailingRow = true := by kernel_rfl
theorem named_FnSailing : Try.pinned.checked.prog.funcNamed Rows.fnSailingRow.func = some 3 := by kernel_rfl
theorem inst_FnSailing : Try.f3.isInstance Try.pinned.checked.prog Rows.fnSailingRow.origin Rows.fnSailingRow.targs := (of_decide_eq_true (by kernel_rfl))
theorem wrap_FnSailing : Try.f3.isWrapper Try.pinned.checked.prog Rows.fnSailingRow.wrapper Rows.fnSailingRow.mainSum := by
  unfold Func.isWrapper; first | (rw [if_pos (by decide +kernel)]; kernel_rfl) | (rw [if_neg (by decide +kernel)]; exact ⟨rfl, rfl⟩)
theorem FnSailing_holds : Rows.FnSailingSaid :=
  OpenClaim.holds_of_wide (p := Try.pinned) (s := Rows.fnSailingSpec) (c := Rows.fnSailingRow) 3 Try.f3 rfl rfl rfl rfl rfl rfl rfl ⟨rfl, rfl, rfl, rfl, rfl⟩ rfl rfl rfl rfl rfl named_FnSailing Try.func3
    (joined_of seatFacts facts_FnSailing ⟨rfl, rfl, rfl, rfl, rfl, rfl, rfl, rfl⟩) inst_FnSailing wrap_FnSailing (fun os started H enc _ => lifted_FnSailing os started H enc)
end Go.Proofs.Ytpglolegeidfoaa
