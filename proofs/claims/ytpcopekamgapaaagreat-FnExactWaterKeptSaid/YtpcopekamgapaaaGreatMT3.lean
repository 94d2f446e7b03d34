/- Contracts of functions of this seat: what each answers, as plain Lean. -/
import Derived.Test.YtpcopekamgapaaaGreatMT2
import Derived.Test.YtpcopekamgapaaaGreatMTy2
set_option linter.all false
namespace Go.Proofs.YtpcopekamgapaaaGreat
open Go.RowKit

def ptOk (p : Point) : Bool := inRange p.X 0 1000000000 && inRange p.Y 0 1000000000
/-- Point b may follow point a. -/
def follows (a b : Point) : Bool := decide (a.X < b.X) && decide (a.Y ≤ b.Y)
def stepOk (l : List Point) (k : Nat) : Bool :=
  match l[k]? with
  | some p => ptOk p && (match k with
    | 0 => true
    | j + 1 => match l[j]? with
      | some q => follows q p
      | none => false)
  | none => true
def upTo (l : List Point) : Nat → Bool
  | 0 => true
  | k + 1 => upTo l k && stepOk l k
def TableOk (l : List Point) : Bool := upTo l l.length && inRange l.length 2 20
theorem step_zero {l : List Point} {p : Point} (h : l[0]? = some p) : stepOk l 0 = ptOk p := by simp [stepOk, h]
theorem step_succ {l : List Point} {k : Nat} {p q : Point} (h : l[k + 1]? = some p) (hq : l[k]? = some q) : stepOk l (k + 1) = (ptOk p && follows q p) := by simp [stepOk, h, hq]
theorem upTo_false {l : List Point} : ∀ {k n : Nat}, k < n → stepOk l k = false → upTo l n = false
  | k, 0, h, _ => by omega
  | k, n + 1, h, hs => by
    simp only [upTo]
    rcases Nat.lt_or_ge k n with h1 | h1
    · rw [upTo_false h1 hs]; rfl
    · have : k = n := by omega
      subst this
      rw [hs, Bool.and_false]
theorem upTo_next {l : List Point} {k : Nat} (h : upTo l k = true) (hs : stepOk l k = true) : upTo l (k + 1) = true := by simp [upTo, h, hs]
theorem tb_step {l : List Point} {k : Nat} (h : k < l.length) (hs : stepOk l k = false) : TableOk l = false := by simp [TableOk, upTo_false h hs]
theorem tb_len {l : List Point} (h : inRange l.length 2 20 = false) : TableOk l = false := by simp [TableOk, h]
theorem TableOk_impl (l : List Point) : PureF Tryz.prog n_impl_TableOk [.c (.sl 2 (l.map Point.enc))] (.c (.b (TableOk l))) := by
  refine pure_of h_impl_TableOk (by simp) fun hwf => ?_
  simp -dsimp -implicitDefEqProofs [c_impl_TableOk]
  intro hlen
  refine ⟨fun h0 _ => ⟨fun h1 => ?_, fun h1 _ => ?_⟩, fun h0 => ?_⟩
  · exact tb_len (inRange_not.2 (by omega))
  · refine loop_rule (ι := Nat) (fun k => k ≤ l.length ∧ upTo l k = true) (fun k => stOf [(0, .c (.sl 2 (l.map Point.enc))), (13, .c (.sl 2 (l.map Point.enc))), (14, .c (.i l.length)), (15, .c (.i k))] []) (fun k => l.length - k) 0 ⟨by simp, rfl⟩ (by apply le_of <;> simp [AV.refs1, AV.ref0, Obj.refs1]) ?_
    rintro k ⟨hk, hup⟩
    rcases Nat.lt_or_ge k l.length with hlt | hge
    · obtain ⟨p, hp⟩ : ∃ p, l[k]? = some p := ⟨_, List.getElem?_eq_getElem hlt⟩
      have hbad : ptOk p = false → TableOk l = false := fun e => tb_step hlt (by
        cases k with
        | zero => rw [step_zero hp, e]
        | succ j => rw [step_succ hp (List.getElem?_eq_getElem (by omega)), e, Bool.false_and])
      cases k with
      | zero =>
        have f1 := (List.getElem?_eq_some_iff.1 hp).2
        simp -dsimp -implicitDefEqProofs [hp, hlt, f1]
        refine call_lend (inRange_impl p.X 0 1000000000) (by simp) rfl ?_
        simp -dsimp -implicitDefEqProofs
        refine ⟨fun h2 => ?_, fun h2 => hbad (by simp [ptOk, h2])⟩
        refine call_lend (inRange_impl p.Y 0 1000000000) (by simp) rfl ?_
        simp -dsimp -implicitDefEqProofs
        refine ⟨fun h3 => hbad (by simp [ptOk, h3]), fun h3 => ?_⟩
        have hpt : ptOk p = true := by simp [ptOk, h2, h3]
        exact ⟨by unfold inI; omega, 1, ⟨hlt, upTo_next hup (by rw [step_zero hp, hpt])⟩, by omega, by apply le_of <;> simp [AV.refs1, AV.ref0, Obj.refs1]⟩
      | succ j =>
        obtain ⟨q, hq⟩ : ∃ q, l[j]? = some q := ⟨_, List.getElem?_eq_getElem (by omega)⟩
        have hj : (j : Int) + 1 < l.length := by omega
        have hj2 : (j : Int) < l.length := by omega
        have hj3 : (0 : Int) < j + 1 := by omega
        have hj4 : (0 : Int) ≤ j + 1 := by omega
        have hj5 : ((j : Int) + 1).toNat = j + 1 := by omega
        simp -dsimp -implicitDefEqProofs [hp, hq, hj, hj2, hj3, hj4, hj5]
        refine call_lend (inRange_impl p.X 0 1000000000) (by simp) rfl ?_
        simp -dsimp -implicitDefEqProofs
        refine ⟨fun h2 => ?_, fun h2 => hbad (by simp [ptOk, h2])⟩
        refine call_lend (inRange_impl p.Y 0 1000000000) (by simp) rfl ?_
        simp -dsimp -implicitDefEqProofs [hp, hq, hj, hj2, hj3, hj4, hj5]
        refine ⟨fun h3 => hbad (by simp [ptOk, h3]), fun h3 => ?_⟩
        have hpt : ptOk p = true := by simp [ptOk, h2, h3]
        have hbad2 : follows q p = false → TableOk l = false := fun e => tb_step hlt (by rw [step_succ hp hq, e, Bool.and_false])
        refine ⟨by unfold inI; omega, fun h4 => ⟨by unfold inI; omega, fun h5 => ?_, fun h5 => ?_⟩, fun h4 => ?_⟩
        · exact hbad2 (by simp [follows]; omega)
        · have hf : follows q p = true := by simp [follows, h4, h5]
          exact ⟨by unfold inI; omega, j + 2, ⟨hlt, upTo_next hup (by rw [step_succ hp hq, hpt, hf]; rfl)⟩, by omega, by apply le_of <;> simp [AV.refs1, AV.ref0, Obj.refs1]; omega⟩
        · exact hbad2 (by simp [follows]; omega)
    · simp -dsimp -implicitDefEqProofs [lt_f hge]
      have e : k = l.length := by omega
      subst e
      have h7 : inRange l.length 2 20 = true := inRange_iff.2 (by omega)
      simp [TableOk, hup, h7]
  · exact tb_len (inRange_not.2 (by omega))
theorem TableOk_spec (l : List Point) : PureF Tryz.prog n_spec_TableOk [.c (.sl 2 (l.map Point.enc))] (.c (.b (TableOk l))) := by
  refine pure_of h_spec_TableOk (by simp) fun hwf => ?_
  simp -dsimp -implicitDefEqProofs [c_spec_TableOk]
  refine loop_rule (ι := Nat) (fun k => k ≤ l.length ∧ upTo l k = true) (fun k => stOf [(0, .c (.sl 2 (l.map Point.enc))), (3, .c (.i k))] []) (fun k => l.length - k) 0 ⟨by simp, rfl⟩ (by apply le_of <;> simp [AV.refs1, AV.ref0, Obj.refs1]) ?_
  rintro k ⟨hk, hup⟩
  rcases Nat.lt_or_ge k l.length with hlt | hge
  · obtain ⟨p, hp⟩ : ∃ p, l[k]? = some p := ⟨_, List.getElem?_eq_getElem hlt⟩
    have hbad : ptOk p = false → TableOk l = false := fun e => tb_step hlt (by
      cases k with
      | zero => rw [step_zero hp, e]
      | succ j => rw [step_succ hp (List.getElem?_eq_getElem (by omega)), e, Bool.false_and])
    cases k with
    | zero =>
      have f1 := (List.getElem?_eq_some_iff.1 hp).2
      simp -dsimp -implicitDefEqProofs [hp, hlt, f1]
      intro hlen
      refine ⟨_, _, inRange_spec p.X 0 1000000000, by simp, .inr rfl, ?_⟩
      simp -dsimp -implicitDefEqProofs [hp, hlt, f1]
      refine ⟨fun h2 => ?_, fun h2 => hbad (by simp [ptOk, h2])⟩
      refine ⟨_, _, inRange_spec p.Y 0 1000000000, by simp, .inr rfl, ?_⟩
      simp -dsimp -implicitDefEqProofs [hp, hlt, f1]
      refine ⟨fun h3 => ?_, fun h3 => hbad (by simp [ptOk, h3])⟩
      have hpt : ptOk p = true := by simp [ptOk, h2, h3]
      exact ⟨by unfold inI; omega, 1, ⟨hlt, upTo_next hup (by rw [step_zero hp, hpt])⟩, by omega, by apply le_of <;> simp [AV.refs1, AV.ref0, Obj.refs1]⟩
    | succ j =>
      obtain ⟨q, hq⟩ : ∃ q, l[j]? = some q := ⟨_, List.getElem?_eq_getElem (by omega)⟩
      have hj : (j : Int) + 1 < l.length := by omega
      have hj2 : (j : Int) < l.length := by omega
      have hj3 : (0 : Int) < j + 1 := by omega
      have hj4 : (0 : Int) ≤ j + 1 := by omega
      have hj5 : ((j : Int) + 1).toNat = j + 1 := by omega
      simp -dsimp -implicitDefEqProofs [hp, hq, hj, hj2, hj3, hj4, hj5]
      intro hlen
      refine ⟨_, _, inRange_spec p.X 0 1000000000, by simp, .inr rfl, ?_⟩
      simp -dsimp -implicitDefEqProofs [hp, hq, hj, hj2, hj3, hj4, hj5]
      refine ⟨fun h2 => ?_, fun h2 => hbad (by simp [ptOk, h2])⟩
      refine ⟨_, _, inRange_spec p.Y 0 1000000000, by simp, .inr rfl, ?_⟩
      simp -dsimp -implicitDefEqProofs [hp, hq, hj, hj2, hj3, hj4, hj5]
      refine ⟨fun h3 => ?_, fun h3 => hbad (by simp [ptOk, h3])⟩
      have hpt : ptOk p = true := by simp [ptOk, h2, h3]
      unfold maxLen at hlen
      have hbad2 : follows q p = false → TableOk l = false := fun e => tb_step hlt (by rw [step_succ hp hq, e, Bool.and_false])
      refine ⟨by unfold inI; omega, fun h4 => ⟨by unfold inI; omega, fun h5 => ?_, fun h5 => ?_⟩, fun h4 => ?_⟩
      · exact hbad2 (by simp [follows]; omega)
      · have hf : follows q p = true := by simp [follows, h4, h5]
        exact ⟨by unfold inI; omega, j + 2, ⟨hlt, upTo_next hup (by rw [step_succ hp hq, hpt, hf]; rfl)⟩, by omega, by apply le_of <;> simp [AV.refs1, AV.ref0, Obj.refs1]; omega⟩
      · exact hbad2 (by simp [follows]; omega)
  · simp -dsimp -implicitDefEqProofs [lt_f hge]
    intro hlen
    refine call_lend (inRange_spec l.length 2 20) (by simp) rfl ?_
    simp -dsimp -implicitDefEqProofs
    have e : k = l.length := by omega
    subst e
    simp [TableOk, hup]
def amount (n : Int) : Bool := inRange n 0 1000000000
def l02Sum (r : Reach) : Int := r.Volume + r.Pipe.sum
def ReachOk (r : Reach) : Bool := TableOk r.Table && amount r.Volume && decide (r.Pipe.length ≤ 12) && r.Pipe.all amount && decide (l02Sum r ≤ 1000000000)
theorem sum_nonneg : ∀ {l : List Int}, (∀ x ∈ l, amount x = true) → 0 ≤ l.sum
  | [], _ => by simp
  | x :: l, h => by
    have h1 := sum_nonneg (l := l) fun y hy => h y (by simp [hy])
    have h2 := inRange_iff.1 (show inRange x 0 1000000000 = true from h x (by simp))
    simp only [List.sum_cons]; omega
theorem sum_split {l : List Int} (k : Nat) : l.sum = sumTo l k + (l.drop k).sum := by
  unfold sumTo
  conv => lhs; rw [← List.take_append_drop k l]
  rw [List.sum_append]
theorem rf_sum {r : Reach} {k : Nat} {x : Int} (hx : r.Pipe[k]? = some x) (h : 1000000000 < r.Volume + sumTo r.Pipe k + x) : ReachOk r = false := by
  cases hr : ReachOk r with
  | false => rfl
  | true =>
    exfalso
    simp only [ReachOk, Bool.and_eq_true, List.all_eq_true, decide_eq_true_eq] at hr
    obtain ⟨⟨_, h1⟩, h2⟩ := hr
    have h3 := sum_nonneg (l := r.Pipe.drop (k + 1)) fun y hy => h1 y (List.mem_of_mem_drop hy)
    have h4 := sum_split (l := r.Pipe) (k + 1)
    rw [sumTo_succ hx] at h4
    unfold l02Sum at h2
    omega
theorem rf_amount {r : Reach} {k : Nat} {x : Int} (hx : r.Pipe[k]? = some x) (h : amount x = false) : ReachOk r = false := by
  have : r.Pipe.all amount = false := all_false (p := amount) hx h
  simp [ReachOk, this]
theorem ReachOk_impl (r : Reach) : PureF Tryz.prog n_impl_ReachOk [.agg (r.enc.map .c)] (.c (.b (ReachOk r))) := by
  refine pure_of h_impl_ReachOk (by simp) fun hwf => ?_
  simp -dsimp -implicitDefEqProofs [c_impl_ReachOk]
  refine call_lend (TableOk_impl r.Table) (by simp) rfl ?_
  simp -dsimp -implicitDefEqProofs
  refine ⟨fun h1 => ?_, fun h1 => by simp [ReachOk, h1]⟩
  refine call_lend (inRange_impl r.Volume 0 1000000000) (by simp) rfl ?_
  simp -dsimp -implicitDefEqProofs
  refine ⟨fun h2 hlen => ⟨fun h3 => ?_, fun h3 => ⟨?_, fun _ => ?_⟩⟩, fun h2 => by simp [ReachOk, amount, h2]⟩
  · have : ¬ r.Pipe.length ≤ 12 := by omega
    simp [ReachOk, this]
  · have := inRange_iff.1 h2
    unfold inI; omega
  have h2' := inRange_iff.1 h2
  refine loop_rule (ι := Nat) (fun k => k ≤ r.Pipe.length ∧ (∀ n ∈ r.Pipe.take k, amount n = true) ∧ 0 ≤ sumTo r.Pipe k ∧ r.Volume + sumTo r.Pipe k ≤ 1000000000) (fun k => stOf [(3, .c (.i (1000000000 - r.Volume - sumTo r.Pipe k))), (26, .c (.sl 1 (r.Pipe.map ienc))), (27, .c (.i r.Pipe.length)), (28, .c (.i k))] []) (fun k => r.Pipe.length - k) 0 ⟨by simp, by simp, by simp [sumTo_zero], by simp only [sumTo_zero]; omega⟩ (by apply le_of <;> simp [AV.refs1, AV.ref0, Obj.refs1, sumTo_zero]) ?_
  rintro k ⟨hk, hall, hs0, hs⟩
  rcases Nat.lt_or_ge k r.Pipe.length with hlt | hge
  · obtain ⟨x, hx⟩ : ∃ x, r.Pipe[k]? = some x := ⟨_, List.getElem?_eq_getElem hlt⟩
    simp -dsimp -implicitDefEqProofs [hx, lt_t hlt]
    refine ⟨fun h4 => ⟨fun h5 => ?_, fun h5 => ?_⟩, fun h4 => ?_⟩
    · exact rf_sum hx (by omega)
    · have ha : amount x = true := inRange_iff.2 (by omega)
      have e1 := sumTo_succ hx
      refine ⟨by unfold inI; omega, inI_succ hlt hlen, k + 1, ⟨hlt, all_take_succ (p := amount) hx hall ha, by rw [e1]; omega, by rw [e1]; omega⟩, by omega, ?_⟩
      apply le_of <;> simp [AV.refs1, AV.ref0, Obj.refs1, e1]; omega
    · exact rf_amount hx (inRange_not.2 (by omega))
  · simp -dsimp -implicitDefEqProofs [lt_f hge]
    have h6 := all_of_take (p := amount) hge hall
    rw [sumTo_all hge] at hs
    simp [ReachOk, h1, show amount r.Volume = true from h2, h6, l02Sum, hs]
    omega
theorem sumTo_bound {l : List Int} (h : ∀ n ∈ l, amount n = true) (hl : l.length ≤ 12) (k : Nat) : 0 ≤ sumTo l k ∧ sumTo l k ≤ 12000000000 := by
  have h1 := sum_bound (l := l.take k) (b := 1000000000) fun x hx => h x (List.mem_of_mem_take hx)
  have h2 : (l.take k).length ≤ 12 := by simp; omega
  unfold sumTo
  omega
theorem l02Sum_c (r : Reach) (hv : amount r.Volume = true) (hl : r.Pipe.length ≤ 12) (hp : ∀ n ∈ r.Pipe, amount n = true) : PureF Tryz.prog n_spec_l02Sum [.agg (r.enc.map .c)] (.c (.i (l02Sum r))) := by
  refine pure_of h_spec_l02Sum (by simp) fun hwf => ?_
  have hv' := inRange_iff.1 (show inRange r.Volume 0 1000000000 = true from hv)
  simp -dsimp -implicitDefEqProofs [c_spec_l02Sum]
  refine loop_rule (ι := Nat) (fun k => k ≤ r.Pipe.length) (fun k => stOf [(1, .box 1 0), (3, .c (.i (r.Volume + sumTo r.Pipe k))), (4, .c (.i k))] [(1, .box (r.enc.map .c))]) (fun k => r.Pipe.length - k) 0 (by simp) (by apply le_of <;> simp [AV.refs1, AV.ref0, Obj.refs1, sumTo_zero]) ?_
  rintro k hk
  rcases Nat.lt_or_ge k r.Pipe.length with hlt | hge
  · obtain ⟨x, hx⟩ : ∃ x, r.Pipe[k]? = some x := ⟨_, List.getElem?_eq_getElem hlt⟩
    have e1 := sumTo_succ hx
    have b1 := sumTo_bound hp hl (k + 1)
    rw [e1] at b1
    simp -dsimp -implicitDefEqProofs [hx, lt_t hlt]
    intro hlen
    refine ⟨by unfold inI; omega, inI_succ hlt hlen, k + 1, hlt, by omega, ?_⟩
    apply le_of <;> simp [AV.refs1, AV.ref0, Obj.refs1, e1]; omega
  · simp -dsimp -implicitDefEqProofs [lt_f hge]
    intro _
    rw [sumTo_all hge]; rfl
theorem ReachOk_spec (r : Reach) : PureF Tryz.prog n_spec_ReachOk [.agg (r.enc.map .c)] (.c (.b (ReachOk r))) := by
  refine pure_of h_spec_ReachOk (by simp) fun hwf => ?_
  simp -dsimp -implicitDefEqProofs [c_spec_ReachOk]
  refine call_lend (TableOk_spec r.Table) (by simp) rfl ?_
  simp -dsimp -implicitDefEqProofs
  refine ⟨fun h1 => ?_, fun h1 => by simp [ReachOk, h1]⟩
  refine call_lend (inRange_spec r.Volume 0 1000000000) (by simp) rfl ?_
  simp -dsimp -implicitDefEqProofs
  refine ⟨fun h2 hlen => ⟨fun h3 => ?_, fun h3 => ?_⟩, fun h2 => by simp [ReachOk, amount, h2]⟩
  · have : ¬ r.Pipe.length ≤ 12 := by omega
    simp [ReachOk, this]
  refine loop_rule (ι := Nat) (fun k => k ≤ r.Pipe.length ∧ (∀ n ∈ r.Pipe.take k, amount n = true)) (fun k => stOf [(1, .box 1 0), (3, .c (.i k))] [(1, .box (r.enc.map .c))]) (fun k => r.Pipe.length - k) 0 ⟨by simp, by simp⟩ (by apply le_of <;> simp [AV.refs1, AV.ref0, Obj.refs1]) ?_
  rintro k ⟨hk, hall⟩
  rcases Nat.lt_or_ge k r.Pipe.length with hlt | hge
  · obtain ⟨x, hx⟩ : ∃ x, r.Pipe[k]? = some x := ⟨_, List.getElem?_eq_getElem hlt⟩
    simp -dsimp -implicitDefEqProofs [hx, lt_t hlt]
    intro _
    refine call_lend (inRange_spec x 0 1000000000) (by simp) rfl ?_
    simp -dsimp -implicitDefEqProofs
    refine ⟨fun h4 => rf_amount hx h4, fun h4 => ?_⟩
    exact ⟨inI_succ hlt hlen, k + 1, ⟨hlt, all_take_succ (p := amount) hx hall h4⟩, by omega, by apply le_of <;> simp [AV.refs1, AV.ref0, Obj.refs1]⟩
  · simp -dsimp -implicitDefEqProofs [lt_f hge]
    intro _
    have h6 := all_of_take (p := amount) hge hall
    refine call_lend (l02Sum_c r h2 (by omega) (List.all_eq_true.1 h6)) (by simp) rfl ?_
    simp -dsimp -implicitDefEqProofs
    have h3' : r.Pipe.length ≤ 12 := by omega
    simp [ReachOk, h1, show amount r.Volume = true from h2, h6, h3']
theorem tw_next {α : Type} {p : α → Bool} : ∀ {l : List α} {k : Nat} {q : α}, k ≤ (l.takeWhile p).length → l[k]? = some q → p q = true → k + 1 ≤ (l.takeWhile p).length
  | [], k, q, _, h, _ => by simp at h
  | x :: l, 0, q, _, h, hq => by
    simp at h; subst h
    simp [List.takeWhile_cons, hq]
  | x :: l, k + 1, q, hk, h, hq => by
    rw [List.takeWhile_cons] at hk ⊢
    split at hk
    · rename_i hx
      rw [if_pos hx]
      have := tw_next (l := l) (k := k) (by simpa using hk) (by simpa using h) hq
      simp only [List.length_cons]; omega
    · simp at hk
theorem tw_stop {α : Type} {p : α → Bool} : ∀ {l : List α} {k : Nat} {q : α}, k ≤ (l.takeWhile p).length → l[k]? = some q → p q = false → (l.takeWhile p).length = k
  | [], k, q, _, h, _ => by simp at h
  | x :: l, 0, q, _, h, hq => by
    simp at h; subst h
    simp [List.takeWhile_cons, hq]
  | x :: l, k + 1, q, hk, h, hq => by
    rw [List.takeWhile_cons] at hk ⊢
    split at hk
    · rename_i hx
      rw [if_pos hx]
      have := tw_stop (l := l) (k := k) (by simpa using hk) (by simpa using h) hq
      simp only [List.length_cons]; omega
    · simp at hk
/-- The piece of the table in which x lies. -/
def seg (l : List Point) (x : Int) : Nat := (l.tail.takeWhile fun q => decide (q.X ≤ x)).length
theorem seg_next {l : List Point} {x : Int} {k : Nat} {q : Point} (hk : k ≤ seg l x) (hq : l[k + 1]? = some q) (h : q.X ≤ x) : k + 1 ≤ seg l x :=
  tw_next hk (by rw [List.getElem?_tail]; exact hq) (by simp [h])
theorem seg_stop {l : List Point} {x : Int} {k : Nat} {q : Point} (hk : k ≤ seg l x) (hq : l[k + 1]? = some q) (h : x < q.X) : seg l x = k :=
  tw_stop hk (by rw [List.getElem?_tail]; exact hq) (by simp; omega)
theorem upTo_all {l : List Point} : ∀ {n k : Nat}, upTo l n = true → k < n → stepOk l k = true
  | 0, k, _, h => by omega
  | n + 1, k, h, hk => by
    simp only [upTo, Bool.and_eq_true] at h
    rcases Nat.lt_or_ge k n with h1 | h1
    · exact upTo_all h.1 h1
    · have : k = n := by omega
      subst this; exact h.2
structure TableFacts (l : List Point) : Prop where
  len : 2 ≤ l.length ∧ l.length ≤ 20
  pt : ∀ (k : Nat) (p : Point), l[k]? = some p → (0 ≤ p.X ∧ p.X ≤ 1000000000) ∧ (0 ≤ p.Y ∧ p.Y ≤ 1000000000)
  up : ∀ (k : Nat) (p q : Point), l[k]? = some p → l[k + 1]? = some q → p.X < q.X ∧ p.Y ≤ q.Y
theorem tableFacts {l : List Point} (h : TableOk l = true) : TableFacts l := by
  simp only [TableOk, Bool.and_eq_true] at h
  obtain ⟨h1, h2⟩ := h
  have h3 := inRange_iff.1 h2
  refine ⟨by omega, fun k p hp => ?_, fun k p q hp hq => ?_⟩
  · have hk := (List.getElem?_eq_some_iff.1 hp).1
    have hs := upTo_all h1 hk
    have : ptOk p = true := by
      cases k with
      | zero => rw [step_zero hp] at hs; exact hs
      | succ j =>
        rw [step_succ hp (List.getElem?_eq_getElem (by omega)), Bool.and_eq_true] at hs
        exact hs.1
    simp only [ptOk, Bool.and_eq_true] at this
    exact ⟨inRange_iff.1 this.1, inRange_iff.1 this.2⟩
  · have hk := (List.getElem?_eq_some_iff.1 hq).1
    have hs := upTo_all h1 hk
    rw [step_succ hq hp, Bool.and_eq_true] at hs
    have := hs.2
    simpa [follows] using this
def valAt (p q : Point) (x : Int) : Int := p.Y + ((x - p.X) * (q.Y - p.Y)).tdiv (q.X - p.X)
def ptAt (l : List Point) (k : Nat) : Point := l[k]?.getD default
theorem ptAt_eq {l : List Point} {k : Nat} {p : Point} (h : l[k]? = some p) : ptAt l k = p := by simp [ptAt, h]
def ValueAt (l : List Point) (x : Int) : Int :=
  if TableOk l then if x ≤ (ptAt l 0).X then (ptAt l 0).Y else if (ptAt l (l.length - 1)).X ≤ x then (ptAt l (l.length - 1)).Y else valAt (ptAt l (seg l x)) (ptAt l (seg l x + 1)) x
  else 0
theorem valAt_in {l : List Point} (tf : TableFacts l) {k : Nat} {p q : Point} (hp : l[k]? = some p) (hq : l[k + 1]? = some q) {x v : Int} (hx : p.X ≤ x) (h4 : x < q.X) (hv : v = p.Y + ((x - p.X) * (q.Y - p.Y)).tdiv (q.X - p.X)) :
    inI (x - p.X) ∧ inI (q.Y - p.Y) ∧ inI ((x - p.X) * (q.Y - p.Y)) ∧ inI (q.X - p.X) ∧ ¬q.X - p.X = 0 ∧ inI (((x - p.X) * (q.Y - p.Y)).tdiv (q.X - p.X)) ∧ inI (p.Y + ((x - p.X) * (q.Y - p.Y)).tdiv (q.X - p.X)) ∧ v = p.Y + ((x - p.X) * (q.Y - p.Y)).tdiv (q.X - p.X) := by
  have b1 := tf.pt k p hp
  have b2 := tf.pt (k + 1) q hq
  have b3 := tf.up k p q hp hq
  have c1 : 0 ≤ (x - p.X) * (q.Y - p.Y) := Int.mul_nonneg (by omega) (by omega)
  have c2 : (x - p.X) * (q.Y - p.Y) ≤ 1000000000 * 1000000000 := Int.mul_le_mul (by omega) (by omega) (by omega) (by omega)
  have c3 : ((x - p.X) * (q.Y - p.Y)).tdiv (q.X - p.X) = ((x - p.X) * (q.Y - p.Y)) / (q.X - p.X) := Int.tdiv_eq_ediv_of_nonneg c1
  have c4 : 0 ≤ ((x - p.X) * (q.Y - p.Y)) / (q.X - p.X) := Int.ediv_nonneg c1 (by omega)
  have c5 : ((x - p.X) * (q.Y - p.Y)) / (q.X - p.X) ≤ (x - p.X) * (q.Y - p.Y) := Int.ediv_le_self _ c1
  refine ⟨by unfold inI; omega, by unfold inI; omega, by unfold inI; omega, by unfold inI; omega, by omega, ?_, ?_, hv⟩
  · rw [c3]; unfold inI; omega
  · rw [c3]; unfold inI; omega
/-! The least place. -/
def least (f : Int → Bool) (lo : Int) : Nat → Int
  | 0 => lo
  | n + 1 => if f lo then lo else least f (lo + 1) n
theorem least_eq {f : Int → Bool} : ∀ {n : Nat} {lo p : Int}, lo ≤ p → p ≤ lo + n → f p = true → (∀ z, lo ≤ z → z < p → f z = false) → least f lo n = p
  | 0, lo, p, h1, h2, h3, h4 => by simp only [least]; omega
  | n + 1, lo, p, h1, h2, h3, h4 => by
    simp only [least]
    by_cases e : lo = p
    · subst e; rw [if_pos h3]
    · rw [if_neg (by rw [h4 lo (Int.le_refl _) (by omega)]; simp)]
      exact least_eq (by omega) (by omega) h3 fun z hz1 hz2 => h4 z (by omega) hz2
theorem tdiv_mono {a b d : Int} (ha : 0 ≤ a) (hab : a ≤ b) (hd : 0 < d) : a.tdiv d ≤ b.tdiv d := by
  rw [Int.tdiv_eq_ediv_of_nonneg ha, Int.tdiv_eq_ediv_of_nonneg (by omega)]
  exact Int.ediv_le_ediv hd hab
theorem valAt_mono {l : List Point} (tf : TableFacts l) {k : Nat} {p q : Point} (hp : l[k]? = some p) (hq : l[k + 1]? = some q) {x y : Int} (hx : p.X ≤ x) (hxy : x ≤ y) : valAt p q x ≤ valAt p q y := by
  have b3 := tf.up k p q hp hq
  unfold valAt
  have c1 : 0 ≤ (x - p.X) * (q.Y - p.Y) := Int.mul_nonneg (by omega) (by omega)
  have c2 : (x - p.X) * (q.Y - p.Y) ≤ (y - p.X) * (q.Y - p.Y) := Int.mul_le_mul_of_nonneg_right (by omega) (by omega)
  have := tdiv_mono c1 c2 (show 0 < q.X - p.X by omega)
  omega
theorem valAt_ends {l : List Point} (tf : TableFacts l) {k : Nat} {p q : Point} (hp : l[k]? = some p) (hq : l[k + 1]? = some q) : valAt p q p.X = p.Y ∧ valAt p q q.X = q.Y := by
  have b3 := tf.up k p q hp hq
  unfold valAt
  refine ⟨by simp, ?_⟩
  rw [Int.mul_tdiv_cancel_left _ (by omega)]
  omega
theorem tw_all {α : Type} {p : α → Bool} : ∀ {l : List α} {i : Nat} {q : α}, i < (l.takeWhile p).length → l[i]? = some q → p q = true
  | [], i, q, h, _ => by simp at h
  | x :: l, i, q, h, hq => by
    rw [List.takeWhile_cons] at h
    split at h
    · rename_i hx
      cases i with
      | zero => simp at hq; subst hq; exact hx
      | succ i => exact tw_all (l := l) (i := i) (by simpa using h) (by simpa using hq)
    · simp at h
theorem tw_end {α : Type} {p : α → Bool} : ∀ {l : List α} {q : α}, l[(l.takeWhile p).length]? = some q → p q = false
  | [], q, h => by simp at h
  | x :: l, q, h => by
    rw [List.takeWhile_cons] at h
    split at h
    · exact tw_end (l := l) (by simpa using h)
    · rename_i hx
      simp at h; subst h; simpa using hx
theorem table_le {l : List Point} (tf : TableFacts l) : ∀ {j i : Nat} {p q : Point}, i ≤ j → l[i]? = some p → l[j]? = some q → p.X ≤ q.X ∧ p.Y ≤ q.Y
  | 0, i, p, q, h, hp, hq => by
    have : i = 0 := by omega
    subst this; rw [hp] at hq; cases hq; omega
  | j + 1, i, p, q, h, hp, hq => by
    rcases Nat.lt_or_ge j i with h1 | h1
    · have : i = j + 1 := by omega
      subst this; rw [hp] at hq; cases hq; omega
    · have hj := (List.getElem?_eq_some_iff.1 hq).1
      obtain ⟨r, hr⟩ : ∃ r, l[j]? = some r := ⟨_, List.getElem?_eq_getElem (by omega)⟩
      have e1 := table_le tf h1 hp hr
      have e2 := tf.up j r q hr hq
      omega
theorem seg_at {l : List Point} (tf : TableFacts l) {x : Int} (h0 : (ptAt l 0).X ≤ x) (h1 : x < (ptAt l (l.length - 1)).X) : ∃ p q, l[seg l x]? = some p ∧ l[seg l x + 1]? = some q ∧ p.X ≤ x ∧ x < q.X := by
  obtain ⟨hl1, hl2⟩ := tf.len
  have hlen : seg l x ≤ l.length - 1 := by
    unfold seg
    have := (List.takeWhile_sublist (fun q : Point => decide (q.X ≤ x)) (l := l.tail)).length_le
    simpa using this
  obtain ⟨e, he⟩ : ∃ e, l[l.length - 1]? = some e := ⟨_, List.getElem?_eq_getElem (by omega)⟩
  rw [ptAt_eq he] at h1
  have hp : ∀ p, l[seg l x]? = some p → p.X ≤ x := by
    intro p hp
    cases hs : seg l x with
    | zero => rw [hs] at hp; rw [ptAt_eq hp] at h0; exact h0
    | succ j =>
      rw [hs] at hp
      have := tw_all (p := fun q : Point => decide (q.X ≤ x)) (l := l.tail) (i := j) (q := p) (by show j < seg l x; omega) (by rw [List.getElem?_tail]; exact hp)
      simpa using this
  have hlt : seg l x < l.length - 1 := by
    rcases Nat.lt_or_ge (seg l x) (l.length - 1) with h | h
    · exact h
    · have e1 : seg l x = l.length - 1 := by omega
      have := hp e (by rw [e1]; exact he)
      omega
  obtain ⟨p, hp'⟩ : ∃ p, l[seg l x]? = some p := ⟨_, List.getElem?_eq_getElem (by omega)⟩
  obtain ⟨q, hq'⟩ : ∃ p, l[seg l x + 1]? = some p := ⟨_, List.getElem?_eq_getElem (by omega)⟩
  refine ⟨p, q, hp', hq', hp p hp', ?_⟩
  have := tw_end (p := fun q : Point => decide (q.X ≤ x)) (l := l.tail) (q := q) (by rw [List.getElem?_tail]; exact hq')
  simp at this
  omega
theorem ValueAt_seg {l : List Point} (h : TableOk l = true) {x : Int} (h0 : (ptAt l 0).X < x) (h1 : x < (ptAt l (l.length - 1)).X) : ValueAt l x = valAt (ptAt l (seg l x)) (ptAt l (seg l x + 1)) x := by
  have g1 : ¬ x ≤ (ptAt l 0).X := by omega
  have g2 : ¬ (ptAt l (l.length - 1)).X ≤ x := by omega
  simp [ValueAt, h, g1, g2]
theorem ValueAt_lo {l : List Point} (h : TableOk l = true) {x : Int} (h0 : x ≤ (ptAt l 0).X) : ValueAt l x = (ptAt l 0).Y := by simp [ValueAt, h, h0]
theorem ValueAt_hi {l : List Point} (h : TableOk l = true) {x : Int} (h1 : (ptAt l (l.length - 1)).X ≤ x) : ValueAt l x = (ptAt l (l.length - 1)).Y := by
  have tf := tableFacts h
  obtain ⟨hl1, hl2⟩ := tf.len
  obtain ⟨e, he⟩ : ∃ e, l[l.length - 1]? = some e := ⟨_, List.getElem?_eq_getElem (by omega)⟩
  obtain ⟨p, hp⟩ : ∃ e, l[0]? = some e := ⟨_, List.getElem?_eq_getElem (by omega)⟩
  obtain ⟨q, hq⟩ : ∃ e, l[1]? = some e := ⟨_, List.getElem?_eq_getElem (by omega)⟩
  have e1 := tf.up 0 p q hp hq
  have e2 := table_le tf (show 1 ≤ l.length - 1 by omega) hq he
  have g1 : ¬ x ≤ (ptAt l 0).X := by rw [ptAt_eq hp]; rw [ptAt_eq he] at h1; omega
  simp [ValueAt, h, g1, h1]
theorem ValueAt_mid {l : List Point} (h : TableOk l = true) {x : Int} (h0 : (ptAt l 0).X < x) (h1 : x < (ptAt l (l.length - 1)).X) :
    ∃ p q, l[seg l x]? = some p ∧ l[seg l x + 1]? = some q ∧ p.X ≤ x ∧ x < q.X ∧ ValueAt l x = valAt p q x ∧ p.Y ≤ ValueAt l x ∧ ValueAt l x ≤ q.Y := by
  have tf := tableFacts h
  obtain ⟨p, q, e1, e2, e3, e4⟩ := seg_at tf (Int.le_of_lt h0) h1
  have hv := ValueAt_seg h h0 h1
  rw [ptAt_eq e1, ptAt_eq e2] at hv
  have hen := valAt_ends tf e1 e2
  have m1 := valAt_mono tf e1 e2 (Int.le_refl _) e3
  have m2 := valAt_mono tf e1 e2 e3 (Int.le_of_lt e4)
  exact ⟨p, q, e1, e2, e3, e4, hv, by rw [hv]; omega, by rw [hv]; omega⟩
theorem seg_mono {l : List Point} (tf : TableFacts l) {x y : Int} (hxy : x ≤ y) {p q : Point} (hp : l[seg l x]? = some p) (hx : p.X ≤ x) (hq : l[seg l y + 1]? = some q) (hy : y < q.X) : seg l x ≤ seg l y := by
  rcases Nat.lt_or_ge (seg l y) (seg l x) with h | h
  · have := table_le tf (show seg l y + 1 ≤ seg l x by omega) hq hp
    omega
  · exact h
theorem ValueAt_mono {l : List Point} (h : TableOk l = true) {x y : Int} (hxy : x ≤ y) : ValueAt l x ≤ ValueAt l y := by
  have tf := tableFacts h
  obtain ⟨hl1, hl2⟩ := tf.len
  obtain ⟨e, he⟩ : ∃ e, l[l.length - 1]? = some e := ⟨_, List.getElem?_eq_getElem (by omega)⟩
  obtain ⟨f, hf⟩ : ∃ e, l[0]? = some e := ⟨_, List.getElem?_eq_getElem (by omega)⟩
  have hfe := table_le tf (Nat.zero_le _) hf he
  rcases Int.lt_or_le (ptAt l 0).X y with hy | hy
  · rcases Int.lt_or_le y (ptAt l (l.length - 1)).X with hy2 | hy2
    · obtain ⟨p', q', a1, a2, a3, a4, a5, a6, a7⟩ := ValueAt_mid h hy hy2
      rcases Int.lt_or_le (ptAt l 0).X x with hx | hx
      · obtain ⟨p, q, b1, b2, b3, b4, b5, b6, b7⟩ := ValueAt_mid h hx (by omega)
        have hs := seg_mono tf hxy b1 b3 a2 a4
        rcases Nat.lt_or_ge (seg l x) (seg l y) with hlt | hge
        · have := table_le tf (show seg l x + 1 ≤ seg l y by omega) b2 a1
          omega
        · have e1 : seg l x = seg l y := by omega
          rw [e1] at b1 b2
          rw [b1] at a1; cases a1
          rw [b2] at a2; cases a2
          rw [a5, b5]
          exact valAt_mono tf b1 b2 b3 hxy
      · rw [ValueAt_lo h hx, ptAt_eq hf]
        have := table_le tf (Nat.zero_le _) hf a1
        omega
    · rw [ValueAt_hi h hy2, ptAt_eq he]
      rcases Int.lt_or_le (ptAt l 0).X x with hx | hx
      · rcases Int.lt_or_le x (ptAt l (l.length - 1)).X with hx2 | hx2
        · obtain ⟨p, q, b1, b2, b3, b4, b5, b6, b7⟩ := ValueAt_mid h hx hx2
          have hk := (List.getElem?_eq_some_iff.1 b2).1
          have := table_le tf (show seg l x + 1 ≤ l.length - 1 by omega) b2 he
          omega
        · rw [ValueAt_hi h hx2, ptAt_eq he]; omega
      · rw [ValueAt_lo h hx, ptAt_eq hf]; omega
  · rw [ValueAt_lo h hy, ValueAt_lo h (by omega)]; omega
def PlaceOf (l : List Point) (y : Int) : Int × Bool :=
  if TableOk l = true ∧ y ≤ (ptAt l (l.length - 1)).Y then (least (fun z => decide (y ≤ ValueAt l z)) (ptAt l 0).X ((ptAt l (l.length - 1)).X - (ptAt l 0).X).toNat, true) else (0, false)
theorem PlaceOf_no {l : List Point} {y : Int} (h : TableOk l = false) : PlaceOf l y = (0, false) := by simp [PlaceOf, h]
theorem PlaceOf_no2 {l : List Point} {y : Int} (h : (ptAt l (l.length - 1)).Y < y) : PlaceOf l y = (0, false) := by
  have : ¬ y ≤ (ptAt l (l.length - 1)).Y := by omega
  simp [PlaceOf, this]
theorem PlaceOf_is {l : List Point} {y p : Int} (h : TableOk l = true) (hy : y ≤ (ptAt l (l.length - 1)).Y) (h0 : (ptAt l 0).X ≤ p) (h1 : p ≤ (ptAt l (l.length - 1)).X) (hp : y ≤ ValueAt l p) (hz : ∀ z, (ptAt l 0).X ≤ z → z < p → ValueAt l z < y) : PlaceOf l y = (p, true) := by
  simp only [PlaceOf, h, hy, and_self, if_true]
  rw [least_eq (p := p) h0 (by omega) (by simp [hp]) fun z z1 z2 => by have := hz z z1 z2; simp; omega]
/-- What one knows of a table's ends. -/
theorem table_ends {l : List Point} (h1 : TableOk l = true) : ∃ p0 pe, l[0]? = some p0 ∧ l[l.length - 1]? = some pe ∧ ptAt l 0 = p0 ∧ ptAt l (l.length - 1) = pe ∧ 0 ≤ p0.X ∧ p0.X ≤ pe.X ∧ pe.X ≤ 1000000000 ∧ 2 ≤ l.length ∧ l.length ≤ 20 ∧ 0 ≤ pe.Y ∧ pe.Y ≤ 1000000000 := by
  have tf := tableFacts h1
  obtain ⟨hl1, hl2⟩ := tf.len
  obtain ⟨p0, e0⟩ : ∃ p, l[0]? = some p := ⟨_, List.getElem?_eq_getElem (by omega)⟩
  obtain ⟨pe, ee⟩ : ∃ p, l[l.length - 1]? = some p := ⟨_, List.getElem?_eq_getElem (by omega)⟩
  have b1 := tf.pt _ _ e0
  have b2 := tf.pt _ _ ee
  have b3 := table_le tf (Nat.zero_le _) e0 ee
  exact ⟨p0, pe, e0, ee, ptAt_eq e0, ptAt_eq ee, b1.1.1, b3.1, b2.1.2, hl1, hl2, b2.2.1, b2.2.2⟩
theorem PlaceOf_val {l : List Point} {y : Int} (h : (PlaceOf l y).2 = true) : TableOk l = true ∧ 0 ≤ (PlaceOf l y).1 ∧ (PlaceOf l y).1 ≤ 1000000000 := by
  unfold PlaceOf at h ⊢
  split at h
  · rename_i hh
    obtain ⟨p0, pe, e0, ee, a0, ae, b1, b2, b3, hl1, hl2, b4, b5⟩ := table_ends hh.1
    rw [if_pos hh]
    have : ∀ (f : Int → Bool) (n : Nat) (lo : Int), lo ≤ least f lo n ∧ least f lo n ≤ lo + n := by
      intro f n
      induction n with
      | zero => intro lo; simp [least]
      | succ n ih =>
        intro lo
        simp only [least]
        have := ih (lo + 1)
        split <;> omega
    have := this (fun z => decide (y ≤ ValueAt l z)) ((ptAt l (l.length - 1)).X - (ptAt l 0).X).toNat (ptAt l 0).X
    rw [a0, ae] at this
    simp only [a0, ae]
    exact ⟨hh.1, by omega, by omega⟩
  · simp at h
def LevelOf (r : Reach) : Int := if ReachOk r then (if (PlaceOf r.Table r.Volume).2 then (PlaceOf r.Table r.Volume).1 else (ptAt r.Table (r.Table.length - 1)).X) else 0
theorem LevelOf_in (r : Reach) : 0 ≤ LevelOf r ∧ LevelOf r ≤ 1000000000 := by
  unfold LevelOf
  split
  · rename_i h
    have ht : TableOk r.Table = true := by simp [ReachOk] at h; exact h.1.1.1.1
    obtain ⟨p0, pe, e0, ee, a0, ae, b1, b2, b3, hl1, hl2, b4, b5⟩ := table_ends ht
    split
    · rename_i hp; have := PlaceOf_val hp; omega
    · rw [ae]; omega
  · omega
def DepthIn (w : Way) (r : Reach) : Int := if WayOk w = true ∧ ReachOk r = true then (if 0 < LevelOf r - w.Bed then LevelOf r - w.Bed else 0) else 0
theorem WayOk_bed {w : Way} (h : WayOk w = true) : (1 ≤ w.Long ∧ w.Long ≤ 10000) ∧ 0 ≤ w.Bed ∧ w.Bed ≤ 100000 := by
  simp only [WayOk, Bool.and_eq_true] at h
  exact ⟨inRange_iff.1 h.1, inRange_iff.1 h.2⟩
end Go.Proofs.YtpcopekamgapaaaGreat
