/- Contracts of functions of this seat: what each answers, as plain Lean. -/
import Derived.Test.YtfmgadchjiplmaaMT9
set_option linter.all false
namespace Go.Proofs.Ytfmgadchjiplmaa
open Go.RowKit

/-! Settling. -/
def vAt (l : List Int) (k : Nat) : Int := l[k]?.getD 0
theorem vAt_eq {l : List Int} {k : Nat} {x : Int} (h : l[k]? = some x) : vAt l k = x := by simp [vAt, h]
def amaxTo (l : List Int) : Nat → Nat
  | 0 => 0
  | k + 1 => if vAt l (amaxTo l k) < vAt l k then k else amaxTo l k
def aminTo (l : List Int) : Nat → Nat
  | 0 => 0
  | k + 1 => if vAt l k < vAt l (aminTo l k) then k else aminTo l k
theorem amaxTo_zero {l : List Int} : amaxTo l 0 = 0 := rfl
theorem aminTo_zero {l : List Int} : aminTo l 0 = 0 := rfl
theorem amaxTo_succ {l : List Int} {k : Nat} : amaxTo l (k + 1) = if vAt l (amaxTo l k) < vAt l k then k else amaxTo l k := rfl
theorem aminTo_succ {l : List Int} {k : Nat} : aminTo l (k + 1) = if vAt l k < vAt l (aminTo l k) then k else aminTo l k := rfl
theorem amaxTo_lt {l : List Int} (h : 0 < l.length) : ∀ {k : Nat}, k ≤ l.length → amaxTo l k < l.length
  | 0, _ => h
  | k + 1, hk => by
    rw [amaxTo_succ]
    split
    · omega
    · exact amaxTo_lt h (by omega)
theorem aminTo_lt {l : List Int} (h : 0 < l.length) : ∀ {k : Nat}, k ≤ l.length → aminTo l k < l.length
  | 0, _ => h
  | k + 1, hk => by
    rw [aminTo_succ]
    split
    · omega
    · exact aminTo_lt h (by omega)
theorem amaxTo_ge {l : List Int} : ∀ {k j : Nat}, j < k → vAt l j ≤ vAt l (amaxTo l k)
  | k + 1, j, hj => by
    rw [amaxTo_succ]
    rcases Nat.lt_or_ge j k with h | h
    · have := amaxTo_ge (l := l) h
      split <;> omega
    · have : j = k := by omega
      subst this
      split <;> omega
theorem aminTo_le {l : List Int} : ∀ {k j : Nat}, j < k → vAt l (aminTo l k) ≤ vAt l j
  | k + 1, j, hj => by
    rw [aminTo_succ]
    rcases Nat.lt_or_ge j k with h | h
    · have := aminTo_le (l := l) h
      split <;> omega
    · have : j = k := by omega
      subst this
      split <;> omega
theorem sum_ge {l : List Int} {x : Int} (h : ∀ y ∈ l, 0 ≤ y) (hx : x ∈ l) : x ≤ l.sum := by
  induction l with
  | nil => cases hx
  | cons a l ih =>
    have h1 : 0 ≤ l.sum := by
      clear ih hx
      induction l with
      | nil => simp
      | cons b l ih => have := h b (by simp); have := ih fun y hy => h y (by rcases List.mem_cons.1 hy with e | e <;> simp [e]); simp only [List.sum_cons]; omega
    have h2 := h a (by simp)
    simp only [List.sum_cons]
    rcases List.mem_cons.1 hx with e | e
    · omega
    · have := ih (fun y hy => h y (by simp [hy])) e; omega
theorem sum_neg {l : List Int} : (l.map fun x => -x).sum = -l.sum := by
  induction l with
  | nil => rfl
  | cons a l ih => simp only [List.map_cons, List.sum_cons, ih]; omega
theorem sum_le {l : List Int} {x : Int} (h : ∀ y ∈ l, y ≤ 0) (hx : x ∈ l) : l.sum ≤ x := by
  have := sum_ge (l := l.map fun x => -x) (x := -x) (fun y hy => by obtain ⟨z, hz, rfl⟩ := List.mem_map.1 hy; have := h z hz; omega) (List.mem_map.2 ⟨x, hx, rfl⟩)
  rw [sum_neg] at this; omega
theorem sum_set {l : List Int} {i : Nat} {x y : Int} (h : l[i]? = some x) : (l.set i y).sum = l.sum - x + y := by
  induction l generalizing i with
  | nil => simp at h
  | cons a l ih =>
    cases i with
    | zero => simp at h; subst h; simp only [List.set_cons_zero, List.sum_cons]; omega
    | succ i => simp only [List.set_cons_succ, List.sum_cons, ih (i := i) (by simpa using h)]; omega
def nz (l : List Int) : Nat := l.countP fun x => decide (x ≠ 0)
theorem nz_set {l : List Int} {i : Nat} {x y : Int} (h : l[i]? = some x) : nz (l.set i y) = nz l - (if x ≠ 0 then 1 else 0) + (if y ≠ 0 then 1 else 0) := by
  have hi := (List.getElem?_eq_some_iff.1 h).1
  unfold nz
  rw [List.countP_set hi, (List.getElem?_eq_some_iff.1 h).2]
  simp
theorem nz_pos {l : List Int} {i : Nat} {x : Int} (h : l[i]? = some x) (hx : x ≠ 0) : 1 ≤ nz l := by
  unfold nz
  exact List.countP_pos_iff.2 ⟨x, List.mem_of_getElem? h, by simpa using hx⟩
/-- What holds of the balances while debts are settled. -/
structure Bal (l : List Int) : Prop where
  len : l.length ≤ 12
  sum : l.sum = 0
  rng : ∀ x ∈ l, -1000000000 ≤ x ∧ x ≤ 1000000000
def sAmt (l : List Int) : Int := if -(vAt l (aminTo l l.length)) < vAt l (amaxTo l l.length) then -(vAt l (aminTo l l.length)) else vAt l (amaxTo l l.length)
def sEntry (l : List Int) (t : Int) : Entry := ⟨amaxTo l l.length, aminTo l l.length, sAmt l, t, 0⟩
def sStop (l : List Int) : Bool := decide (l.length = 0) || decide (vAt l (amaxTo l l.length) = 0)
structure Owes (l : List Int) (p q : Int) : Prop where
  hi : l[amaxTo l l.length]? = some p
  lo : l[aminTo l l.length]? = some q
  pos : 0 < p
  neg : q < 0
  ne : amaxTo l l.length ≠ aminTo l l.length
theorem owes {l : List Int} (h : Bal l) (hs : sStop l = false) : ∃ p q, Owes l p q := by
  simp only [sStop, Bool.or_eq_false_iff, decide_eq_false_iff_not] at hs
  obtain ⟨h0, h1⟩ := hs
  have hl : 0 < l.length := by omega
  have i1 := amaxTo_lt hl (Nat.le_refl _)
  have i2 := aminTo_lt hl (Nat.le_refl _)
  obtain ⟨p, hp⟩ : ∃ p, l[amaxTo l l.length]? = some p := ⟨_, List.getElem?_eq_getElem i1⟩
  obtain ⟨q, hq⟩ : ∃ p, l[aminTo l l.length]? = some p := ⟨_, List.getElem?_eq_getElem i2⟩
  have ep := vAt_eq hp
  have eq := vAt_eq hq
  have ge : ∀ x ∈ l, x ≤ p := fun x hx => by
    obtain ⟨j, hj⟩ := List.getElem?_of_mem hx
    have := amaxTo_ge (l := l) (List.getElem?_eq_some_iff.1 hj).1
    rw [ep, vAt_eq hj] at this; exact this
  have le : ∀ x ∈ l, q ≤ x := fun x hx => by
    obtain ⟨j, hj⟩ := List.getElem?_of_mem hx
    have := aminTo_le (l := l) (List.getElem?_eq_some_iff.1 hj).1
    rw [eq, vAt_eq hj] at this; exact this
  have hsum := h.sum
  rw [ep] at h1
  have hpos : 0 < p := by
    rcases Int.lt_or_le 0 p with e | e
    · exact e
    · have := sum_le (l := l) (x := p) (fun y hy => by have := ge y hy; omega) (List.mem_of_getElem? hp); omega
  have hneg : q < 0 := by
    rcases Int.lt_or_le q 0 with e | e
    · exact e
    · have := sum_ge (l := l) (x := p) (fun y hy => by have := le y hy; omega) (List.mem_of_getElem? hp); omega
  refine ⟨p, q, hp, hq, hpos, hneg, fun e => ?_⟩
  rw [e, hq] at hp; cases hp; omega
theorem sAmt_eq {l : List Int} {p q : Int} (h : Owes l p q) : sAmt l = if -q < p then -q else p := by unfold sAmt; rw [vAt_eq h.hi, vAt_eq h.lo]
theorem post_is {l : List Int} {p q t : Int} (h : Owes l p q) : post l (sEntry l t) = (l.set (amaxTo l l.length) (p - sAmt l)).set (aminTo l l.length) (q + sAmt l) := by
  have e1 := h.hi
  have e2 : (l.set (amaxTo l l.length) (p - sAmt l))[aminTo l l.length]? = some q := by rw [List.getElem?_set_ne h.ne]; exact h.lo
  have e3 : bAdd l (amaxTo l l.length : Int) (-sAmt l) = l.set (amaxTo l l.length) (p - sAmt l) := by
    unfold bAdd; rw [Int.toNat_natCast, e1, ← Int.sub_eq_add_neg]; rfl
  show bAdd (bAdd l (amaxTo l l.length : Int) (-sAmt l)) (aminTo l l.length : Int) (sAmt l) = _
  rw [e3]
  unfold bAdd; rw [Int.toNat_natCast, e2]; rfl
theorem bal_post {l : List Int} {p q t : Int} (h : Bal l) (ho : Owes l p q) : Bal (post l (sEntry l t)) ∧ nz (post l (sEntry l t)) < nz l := by
  have e2 : (l.set (amaxTo l l.length) (p - sAmt l))[aminTo l l.length]? = some q := by rw [List.getElem?_set_ne ho.ne]; exact ho.lo
  have ha := sAmt_eq ho
  have hp := ho.pos; have hq := ho.neg
  have rp := h.rng p (List.mem_of_getElem? ho.hi)
  have rq := h.rng q (List.mem_of_getElem? ho.lo)
  have np := nz_pos ho.hi (by omega)
  have nq : 2 ≤ nz l := by
    have h1 := nz_set (y := 0) ho.hi
    have h2 := nz_pos (l := l.set (amaxTo l l.length) 0) (i := aminTo l l.length) (x := q) (by rw [List.getElem?_set_ne ho.ne]; exact ho.lo) (by omega)
    rw [h1, if_pos (by omega), if_neg (by omega)] at h2
    omega
  refine ⟨⟨by rw [post_len]; exact h.len, ?_, ?_⟩, ?_⟩
  · rw [post_is ho, sum_set e2, sum_set ho.hi, h.sum]; omega
  · rw [post_is ho]
    intro x hx
    rcases List.mem_or_eq_of_mem_set hx with hx | rfl
    · rcases List.mem_or_eq_of_mem_set hx with hx | rfl
      · exact h.rng x hx
      · split at ha <;> omega
    · split at ha <;> omega
  · rw [post_is ho, nz_set e2, nz_set ho.hi, if_pos (show p ≠ 0 by omega), if_pos (show q ≠ 0 by omega)]
    split at ha
    · rw [if_pos (show p - sAmt l ≠ 0 by omega), if_neg (show ¬ q + sAmt l ≠ 0 by omega)]; omega
    · rw [if_neg (show ¬ p - sAmt l ≠ 0 by omega)]
      split <;> omega
def settleF : Nat → List Int → Int → List Entry
  | 0, _, _ => []
  | n + 1, l, t => if sStop l then [] else sEntry l t :: settleF n (post l (sEntry l t)) t
theorem settleF_stop {n : Nat} {l : List Int} {t : Int} (h : sStop l = true) : settleF n l t = [] := by cases n <;> simp [settleF, h]
theorem settleF_go {n : Nat} {l : List Int} {t : Int} (h : sStop l = false) : settleF (n + 1) l t = sEntry l t :: settleF n (post l (sEntry l t)) t := by simp [settleF, h]
theorem nz_le (l : List Int) : nz l ≤ l.length := List.countP_le_length
theorem settleF_len : ∀ (n : Nat) (l : List Int) (t : Int), (settleF n l t).length ≤ n
  | 0, _, _ => by simp [settleF]
  | n + 1, l, t => by
    simp only [settleF]
    split
    · simp
    · have := settleF_len n (post l (sEntry l t)) t; simp only [List.length_cons]; omega
def okBal (b : List Int) (t : Int) : Bool := decide (b.length ≤ 12) && inRange t 0 1000000 && b.all (fun n => inRange n (-1000000000) 1000000000) && decide (b.sum = 0)
def SettleUp (b : List Int) (t : Int) : List Entry := if okBal b t then settleF b.length b t else []
theorem SettleUp_len (b : List Int) (t : Int) : (SettleUp b t).length ≤ 12 := by
  unfold SettleUp
  split
  · rename_i h
    simp only [okBal, Bool.and_eq_true, decide_eq_true_eq] at h
    have := settleF_len b.length b t; omega
  · simp
/-- How far the debts are settled. -/
structure Midway (b : List Int) (t : Int) (n : Nat) (l : List Int) (out : List Entry) : Prop where
  bal : Bal l
  len : l.length = b.length
  fuel : nz l ≤ n
  all : out ++ settleF n l t = SettleUp b t
  few : out.length + n ≤ 12
theorem Midway.first {b : List Int} {t : Int} (h : okBal b t = true) : Midway b t b.length b [] := by
  have h' := h
  simp only [okBal, Bool.and_eq_true, decide_eq_true_eq, List.all_eq_true] at h'
  obtain ⟨⟨⟨h1, h2⟩, h3⟩, h4⟩ := h'
  exact ⟨⟨h1, h4, fun x hx => inRange_iff.1 (h3 x hx)⟩, rfl, nz_le b, by simp [SettleUp, h], by simpa using h1⟩
theorem Midway.done {b : List Int} {t : Int} {n : Nat} {l : List Int} {out : List Entry} (h : Midway b t n l out) (hs : sStop l = true) : out = SettleUp b t := by
  have := h.all
  rwa [settleF_stop hs, List.append_nil] at this
theorem Midway.next {b : List Int} {t : Int} {n : Nat} {l : List Int} {out : List Entry} (h : Midway b t n l out) (hs : sStop l = false) :
    ∃ m p q, n = m + 1 ∧ Owes l p q ∧ Midway b t m (post l (sEntry l t)) (out ++ [sEntry l t]) := by
  obtain ⟨p, q, ho⟩ := owes h.bal hs
  have hn := nz_pos ho.hi (by have := ho.pos; omega)
  have hf := h.fuel
  obtain ⟨m, rfl⟩ : ∃ m, n = m + 1 := ⟨n - 1, by omega⟩
  obtain ⟨b1, b2⟩ := bal_post (t := t) h.bal ho
  refine ⟨m, p, q, rfl, ho, b1, by rw [post_len]; exact h.len, by omega, ?_, by have := h.few; simp only [List.length_append, List.length_cons, List.length_nil]; omega⟩
  rw [← h.all, settleF_go hs, List.append_assoc]; rfl
theorem CloneI_o (es : List Int) (hl : es.length ≤ 1048576) : OwnF Try.prog n_slices_Clone___int_int_ [.c (.sl 1 (es.map ienc))] (.c (.ow 1 (es.map ienc))) := by
  refine own_of h_slices_Clone___int_int_ (by simp) fun hwf => ?_
  simp -dsimp -implicitDefEqProofs [c_slices_Clone___int_int_, take_full]
  omega
theorem okBal_all {b : List Int} {t : Int} {k : Nat} {x : Int} (h : b[k]? = some x) (hx : inRange x (-1000000000) 1000000000 = false) : okBal b t = false := by
  have : b.all (fun n => inRange n (-1000000000) 1000000000) = false := all_false (p := fun n => inRange n (-1000000000) 1000000000) h hx
  simp [okBal, this]
theorem SettleUp_no {b : List Int} {t : Int} (h : okBal b t = false) : SettleUp b t = [] := by simp [SettleUp, h]
theorem sum_rng {b : List Int} {k : Nat} (h12 : b.length ≤ 12) (h : ∀ x ∈ b.take k, inRange x (-1000000000) 1000000000 = true) (hk : k ≤ b.length) : -12000000000 ≤ sumTo b k ∧ sumTo b k ≤ 12000000000 := by
  have key : ∀ (l : List Int), (∀ x ∈ l, inRange x (-1000000000) 1000000000 = true) → -(1000000000 * (l.length : Int)) ≤ l.sum ∧ l.sum ≤ 1000000000 * l.length := by
    intro l
    induction l with
    | nil => simp
    | cons a l ih =>
      intro hl
      have h1 := ih fun x hx => hl x (by simp [hx])
      have h2 := inRange_iff.1 (hl a (by simp))
      simp only [List.sum_cons, List.length_cons, Int.natCast_add, Int.natCast_one, Int.mul_add, Int.mul_one]
      omega
  have := key (b.take k) h
  have e : (b.take k).length ≤ 12 := by rw [List.length_take]; omega
  unfold sumTo
  omega
set_option maxRecDepth 4000 in
theorem SettleUp_impl (b : List Int) (t : Int) (hb : b.length ≤ 1048576) : OwnF Try.prog n_impl_SettleUp [.c (.sl 1 (b.map ienc)), .c (.i t)] (.c (.ow 5 ((SettleUp b t).map Entry.enc))) := by
  refine own_of h_impl_SettleUp (by simp) fun hwf => ?_
  simp -dsimp -implicitDefEqProofs [c_impl_SettleUp]
  refine fun hlen => ⟨fun h12 => ?_, fun h12 => ?_⟩
  rotate_left
  · rw [SettleUp_no (by simp [okBal]; omega)]
  have h12 : b.length ≤ 12 := by omega
  first
    | refine call_lend (inRange_impl t 0 1000000) (by simp) rfl ?_
    | refine call_pure (inRange_impl t 0 1000000) (by simp) rfl ?_
    | refine ⟨_, _, inRange_impl t 0 1000000, by simp, .inr rfl, ?_⟩
    | refine ⟨_, _, inRange_impl t 0 1000000, by simp, .inl rfl, ?_⟩
    | refine callE_pure (inRange_impl t 0 1000000) (by simp) (.inr rfl) ?_
    | refine callE_pure (inRange_impl t 0 1000000) (by simp) (.inl rfl) ?_
  cases ht : inRange t 0 1000000 with
  | false => simp -dsimp -implicitDefEqProofs; rw [SettleUp_no (by simp [okBal, ht])]
  | true =>
  simp -dsimp -implicitDefEqProofs
  refine fun _ => loop_rule (ι := Nat) (fun k => k ≤ b.length ∧ ∀ x ∈ b.take k, inRange x (-1000000000) 1000000000 = true) (fun k => stOf [(0, .c (.sl 1 (b.map ienc))), (1, .c (.i t)), (5, .c (.i (sumTo b k))), (23, .c (.sl 1 (b.map ienc))), (24, .c (.i b.length)), (25, .c (.i k))] []) (fun k => b.length - k) 0 (by simp) (by apply le_of <;> simp [AV.refs1, AV.ref0, Obj.refs1, sumTo_zero]) ?_
  rintro k ⟨hk, hall⟩
  rcases Nat.lt_or_ge k b.length with hlt | hge
  · obtain ⟨x, hx⟩ : ∃ x, b[k]? = some x := ⟨_, List.getElem?_eq_getElem hlt⟩
    simp -dsimp -implicitDefEqProofs [hx, lt_t hlt]
    first
      | refine call_lend (inRange_impl x (-1000000000) 1000000000) (by simp) rfl ?_
      | refine call_pure (inRange_impl x (-1000000000) 1000000000) (by simp) rfl ?_
      | refine ⟨_, _, inRange_impl x (-1000000000) 1000000000, by simp, .inr rfl, ?_⟩
      | refine ⟨_, _, inRange_impl x (-1000000000) 1000000000, by simp, .inl rfl, ?_⟩
      | refine callE_pure (inRange_impl x (-1000000000) 1000000000) (by simp) (.inr rfl) ?_
      | refine callE_pure (inRange_impl x (-1000000000) 1000000000) (by simp) (.inl rfl) ?_
    cases h1 : inRange x (-1000000000) 1000000000 with
    | false => simp -dsimp -implicitDefEqProofs; rw [SettleUp_no (okBal_all hx h1)]
    | true =>
      simp -dsimp -implicitDefEqProofs
      have hall' := all_take_succ (p := fun n => inRange n (-1000000000) 1000000000) hx hall h1
      have hs := sum_rng h12 hall' hlt
      rw [sumTo_succ hx] at hs
      exact ⟨by unfold inI; omega, inI_succ hlt hlen, k + 1, ⟨hlt, hall'⟩, by omega, by apply le_of <;> simp [AV.refs1, AV.ref0, Obj.refs1, sumTo_succ hx]⟩
  · have hall2 := all_of_take (p := fun n => inRange n (-1000000000) 1000000000) hge hall
    simp -dsimp -implicitDefEqProofs [lt_f hge]
    rw [sumTo_all hge]
    refine ⟨fun h1 => by rw [SettleUp_no (by simp [okBal, h1])], fun h1 => ?_⟩
    have hok : okBal b t = true := by simp [okBal, h12, ht, hall2, h1]
    first
      | refine call_own (CloneI_o b hb) (by simp ) (by simp [AV.closed, AV.closed1, C.closed]) (by simp [freshO]) ?_
      | refine callE_own (CloneI_o b hb) (by simp ) (by simp [AV.closed, AV.closed1, C.closed]) (by simp [freshO]) ?_
    simp -dsimp -implicitDefEqProofs
    refine virt_rule (k0 := 5) 9 5 (by simp) (by simp) (by decide) ?_
    refine loop_rule (ι := Nat × List Int × List Entry) (fun p => Midway b t p.1 p.2.1 p.2.2) (fun p => stOf [(1, .c (.i t)), (8, .own 39 1 b.length), (9, .own 9 5 p.2.2.length)] [(39, .row 1 (p.2.1.map ienc)), (9, .row 5 (p.2.2.map Entry.enc))]) (fun p => p.1) (b.length, b, []) (Midway.first hok) (by apply le_of <;> simp [AV.refs1, AV.ref0, Obj.refs1]) ?_
    rintro ⟨n, l, out⟩ hM
    simp only at hM
    have hll := hM.len
    simp -dsimp -implicitDefEqProofs
    intro _
    refine loop_rule (ι := Nat) (fun k => k ≤ l.length) (fun k => stOf [(1, .c (.i t)), (8, .own 39 1 b.length), (9, .own 9 5 out.length), (10, .c (.i (amaxTo l k : Nat))), (11, .c (.i (aminTo l k : Nat))), (40, .own 39 1 b.length), (41, .c (.i b.length)), (42, .c (.i k))] [(39, .row 1 (l.map ienc)), (9, .row 5 (out.map Entry.enc))]) (fun k => l.length - k) 0 (by simp) (by apply le_of <;> simp [AV.refs1, AV.ref0, Obj.refs1, amaxTo_zero, aminTo_zero]) ?_
    rintro k hk
    rcases Nat.lt_or_ge k l.length with hlt | hge
    · obtain ⟨x, hx⟩ : ∃ x, l[k]? = some x := ⟨_, List.getElem?_eq_getElem hlt⟩
      have i1 := amaxTo_lt (l := l) (by omega) hk
      have i2 := aminTo_lt (l := l) (by omega) hk
      obtain ⟨p, hp⟩ : ∃ p, l[amaxTo l k]? = some p := ⟨_, List.getElem?_eq_getElem i1⟩
      obtain ⟨q, hq⟩ : ∃ p, l[aminTo l k]? = some p := ⟨_, List.getElem?_eq_getElem i2⟩
      have g1 := (List.getElem?_eq_some_iff.1 hx).2
      have g2 := (List.getElem?_eq_some_iff.1 hp).2
      have g3 := (List.getElem?_eq_some_iff.1 hq).2
      have e1 : amaxTo l (k + 1) = if p < x then k else amaxTo l k := by rw [amaxTo_succ, vAt_eq hx, vAt_eq hp]
      have e2 : aminTo l (k + 1) = if x < q then k else aminTo l k := by rw [aminTo_succ, vAt_eq hx, vAt_eq hq]
      have j1 : ((k : Nat) : Int) < (b.length : Int) := by omega
      have j2 : ((amaxTo l k : Nat) : Int) < (b.length : Int) := by omega
      have j3 : ((aminTo l k : Nat) : Int) < (b.length : Int) := by omega
      have j4 : inI ((k : Int) + 1) := by unfold inI; have := hM.bal.len; omega
      generalize amaxTo l k = u at *
      generalize aminTo l k = w at *
      simp -dsimp -implicitDefEqProofs [hx, hp, hq, g1, g2, g3, j1, j2, j3, i1, i2, hlt]
      refine ⟨fun c1 => ⟨fun c2 => ?_, fun c2 => ?_⟩, fun c1 => ⟨fun c2 => ?_, fun c2 => ?_⟩⟩
      all_goals
        refine ⟨j4, k + 1, hlt, by omega, ?_⟩
        apply le_of <;> simp [AV.refs1, AV.ref0, Obj.refs1, e1, e2] <;> (repeat' split) <;> omega
    · have e : k = l.length := by omega
      subst e
      simp -dsimp -implicitDefEqProofs [hll]
      refine fun _ => ⟨fun hne => ?_, fun he => ?_⟩
      rotate_left
      · have hs : sStop l = true := by simp [sStop, hll, he]
        rw [← hM.done hs, take_full]
      have hl0 : 0 < l.length := by rw [hll]; exact List.length_pos_iff.2 hne
      cases hs : sStop l with
      | true =>
        have i1 := amaxTo_lt hl0 (Nat.le_refl _)
        obtain ⟨p, hp⟩ : ∃ p, l[amaxTo l l.length]? = some p := ⟨_, List.getElem?_eq_getElem i1⟩
        have hp0 : p = 0 := by
          simp only [sStop, Bool.or_eq_true, decide_eq_true_eq, vAt_eq hp] at hs
          omega
        subst hp0
        have g1 := (List.getElem?_eq_some_iff.1 hp).2
        rw [hll] at hp i1
        simp only [hll] at g1
        simp -dsimp -implicitDefEqProofs [hp, g1, i1]
        rw [← hM.done hs, take_full]
      | false =>
        obtain ⟨m, p, q, rfl, o, hM'⟩ := hM.next hs
        have hf := hM'.few
        simp only [List.length_append, List.length_cons, List.length_nil] at hf
        have i1 := amaxTo_lt hl0 (Nat.le_refl _)
        have i2 := aminTo_lt hl0 (Nat.le_refl _)
        have hp := o.hi
        have hq := o.lo
        have ha := sAmt_eq o
        have op := o.pos; have oq := o.neg
        have rp := hM.bal.rng p (List.mem_of_getElem? hp)
        have rq := hM.bal.rng q (List.mem_of_getElem? hq)
        have hb1 : bAdd l (amaxTo l l.length : Nat) (-sAmt l) = l.set (amaxTo l l.length) (p - sAmt l) := by unfold bAdd; rw [Int.toNat_natCast, hp, ← Int.sub_eq_add_neg]; rfl
        have r1 : (bAdd l (amaxTo l l.length : Nat) (-sAmt l))[aminTo l l.length]? = some q := by rw [hb1, List.getElem?_set_ne o.ne]; exact o.lo
        have s1 : (l.map ienc).set (amaxTo l l.length) [.i (p - sAmt l)] = (bAdd l (amaxTo l l.length : Nat) (-sAmt l)).map ienc := by rw [hb1, List.map_set]
        have s2 : ((bAdd l (amaxTo l l.length : Nat) (-sAmt l)).map ienc).set (aminTo l l.length) [.i (q + sAmt l)] = (post l (sEntry l t)).map ienc := by
          rw [hb1, post_is (t := t) o]; simp [List.map_set]
        have g1 := (List.getElem?_eq_some_iff.1 hp).2
        have g2 := (List.getElem?_eq_some_iff.1 hq).2
        have g3 := (List.getElem?_eq_some_iff.1 r1).2
        have se : [Entry.enc (sEntry l t)] = [[.i (amaxTo l l.length : Nat), .i (aminTo l l.length : Nat), .i (sAmt l), .i t, .i 0]] := rfl
        have i3 : aminTo l l.length < (bAdd l (amaxTo l l.length : Nat) (-sAmt l)).length := by rw [bAdd_len]; exact i2
        simp only [hll] at hp hq r1 s1 s2 g1 g2 g3 i1 i2 se i3
        have pne : (p = 0) = False := by simp; omega
        have ha' := ha.symm
        have hA : 0 < sAmt l ∧ sAmt l ≤ p ∧ sAmt l ≤ -q := by rw [ha]; split <;> omega
        simp -dsimp -implicitDefEqProofs [hp, hq, g1, g2, i1, i2, pne, ha', r1, s1, s2, g3, i3, hll, bAdd_len]
        refine ⟨by unfold inI; omega, by unfold inI; omega, by unfold inI; omega, by omega, m, post l (sEntry l t), out ++ [sEntry l t], hM', by omega, ?_⟩
        apply le_of <;> simp [AV.refs1, AV.ref0, Obj.refs1, sEntry, hll]

end Go.Proofs.Ytfmgadchjiplmaa
