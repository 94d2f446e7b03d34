/- What the law FnExactAbleCalls stands on: contracts of functions, what each answers as plain Lean, in short form (names, layout). -/
import Derived.Test.YtmimbhooaidelaaGreatSExactAbleCalls2
set_option linter.all false
namespace Go.Proofs.YtmimbhooaidelaaGreat
open Go.RowKit
theorem yjZ (l : List Point) : yF Tryz.prog ycR [.c (.sl 2 (l.map Point.enc))] (.c (.b (yay l))) := by
 refine yt yrP (by simp) fun hwf => ?_
 simp -dsimp -implicitDefEqProofs [ylM]
 intro hlen
 refine ⟨fun h0 _ => ⟨fun h1 => ?_, fun h1 _ => ?_⟩, fun h0 => ?_⟩
 ·exact yDn (yco.2 (by omega))
 ·refine yh (ι := Nat) (fun k => k ≤ l.length ∧ upTo l k = true) (fun k => yP [(0, .c (.sl 2 (l.map Point.enc))), (13, .c (.sl 2 (l.map Point.enc))), (14, .c (.i l.length)), (15, .c (.i k))] []) (fun k => l.length - k) 0 ⟨by simp, rfl⟩ (by apply yj <;> simp [AV.yc, AV.yA, Obj.yc]) ?_
  rintro k ⟨hk, hup⟩
  rcases Nat.lt_or_ge k l.length with hlt | hge
  ·obtain ⟨p, hp⟩ : ∃ p, l[k]? = some p := ⟨_, List.getElem?_eq_getElem hlt⟩
   have hbad : yhG p = false → yay l = false := fun e => yrx hlt (by
    cases k with
    | zero => rw [yjf hp, e]
    | succ j => rw [ydY hp (List.getElem?_eq_getElem (by omega)), e, Bool.false_and])
   cases k with
   | zero =>
    have f1 := (List.getElem?_eq_some_iff.1 hp).2
    simp -dsimp -implicitDefEqProofs [hp, hlt, f1]
    refine yg (yE p.X 0 1000000000) (by simp) rfl ?_
    simp -dsimp -implicitDefEqProofs
    refine ⟨fun h2 => ?_, fun h2 => hbad (by simp [yhG, h2])⟩
    refine yg (yE p.Y 0 1000000000) (by simp) rfl ?_
    simp -dsimp -implicitDefEqProofs
    refine ⟨fun h3 => hbad (by simp [yhG, h3]), fun h3 => ?_⟩
    have hpt : yhG p = true := by simp [yhG, h2, h3]
    exact ⟨by unfold inI; omega, 1, ⟨hlt, ynr hup (by rw [yjf hp, hpt])⟩, by omega, by apply yj <;> simp [AV.yc, AV.yA, Obj.yc]⟩
   | succ j =>
    obtain ⟨q, hq⟩ : ∃ q, l[j]? = some q := ⟨_, List.getElem?_eq_getElem (by omega)⟩
    have hj : (j : Int) + 1 < l.length := by omega
    have hj2 : (j : Int) < l.length := by omega
    have hj3 : (0 : Int) < j + 1 := by omega
    have hj4 : (0 : Int) ≤ j + 1 := by omega
    have hj5 : ((j : Int) + 1).toNat = j + 1 := by omega
    simp -dsimp -implicitDefEqProofs [hp, hq, hj, hj2, hj3, hj4, hj5]
    refine yg (yE p.X 0 1000000000) (by simp) rfl ?_
    simp -dsimp -implicitDefEqProofs
    refine ⟨fun h2 => ?_, fun h2 => hbad (by simp [yhG, h2])⟩
    refine yg (yE p.Y 0 1000000000) (by simp) rfl ?_
    simp -dsimp -implicitDefEqProofs [hp, hq, hj, hj2, hj3, hj4, hj5]
    refine ⟨fun h3 => hbad (by simp [yhG, h3]), fun h3 => ?_⟩
    have hpt : yhG p = true := by simp [yhG, h2, h3]
    have hbad2 : follows q p = false → yay l = false := fun e => yrx hlt (by rw [ydY hp hq, e, Bool.and_false])
    refine ⟨by unfold inI; omega, fun h4 => ⟨by unfold inI; omega, fun h5 => ?_, fun h5 => ?_⟩, fun h4 => ?_⟩
    ·exact hbad2 (by simp [follows]; omega)
    ·have hf : follows q p = true := by simp [follows, h4, h5]
     exact ⟨by unfold inI; omega, j + 2, ⟨hlt, ynr hup (by rw [ydY hp hq, hpt, hf]; rfl)⟩, by omega, by apply yj <;> simp [AV.yc, AV.yA, Obj.yc]; omega⟩
    ·exact hbad2 (by simp [follows]; omega)
  ·simp -dsimp -implicitDefEqProofs [yah hge]
   have e : k = l.length := by omega
   subst e
   have h7 : inRange l.length 2 20 = true := yR.2 (by omega)
   simp [yay, hup, h7]
 ·exact yDn (yco.2 (by omega))
theorem yj7 (l : List Point) : yF Tryz.prog ycU [.c (.sl 2 (l.map Point.enc))] (.c (.b (yay l))) := by
 refine yt ytk (by simp) fun hwf => ?_
 simp -dsimp -implicitDefEqProofs [ymM]
 refine yh (ι := Nat) (fun k => k ≤ l.length ∧ upTo l k = true) (fun k => yP [(0, .c (.sl 2 (l.map Point.enc))), (3, .c (.i k))] []) (fun k => l.length - k) 0 ⟨by simp, rfl⟩ (by apply yj <;> simp [AV.yc, AV.yA, Obj.yc]) ?_
 rintro k ⟨hk, hup⟩
 rcases Nat.lt_or_ge k l.length with hlt | hge
 ·obtain ⟨p, hp⟩ : ∃ p, l[k]? = some p := ⟨_, List.getElem?_eq_getElem hlt⟩
  have hbad : yhG p = false → yay l = false := fun e => yrx hlt (by
   cases k with
   | zero => rw [yjf hp, e]
   | succ j => rw [ydY hp (List.getElem?_eq_getElem (by omega)), e, Bool.false_and])
  cases k with
  | zero =>
   have f1 := (List.getElem?_eq_some_iff.1 hp).2
   simp -dsimp -implicitDefEqProofs [hp, hlt, f1]
   intro hlen
   refine ⟨_, _, yC p.X 0 1000000000, by simp, .inr rfl, ?_⟩
   simp -dsimp -implicitDefEqProofs [hp, hlt, f1]
   refine ⟨fun h2 => ?_, fun h2 => hbad (by simp [yhG, h2])⟩
   refine ⟨_, _, yC p.Y 0 1000000000, by simp, .inr rfl, ?_⟩
   simp -dsimp -implicitDefEqProofs [hp, hlt, f1]
   refine ⟨fun h3 => ?_, fun h3 => hbad (by simp [yhG, h3])⟩
   have hpt : yhG p = true := by simp [yhG, h2, h3]
   exact ⟨by unfold inI; omega, 1, ⟨hlt, ynr hup (by rw [yjf hp, hpt])⟩, by omega, by apply yj <;> simp [AV.yc, AV.yA, Obj.yc]⟩
  | succ j =>
   obtain ⟨q, hq⟩ : ∃ q, l[j]? = some q := ⟨_, List.getElem?_eq_getElem (by omega)⟩
   have hj : (j : Int) + 1 < l.length := by omega
   have hj2 : (j : Int) < l.length := by omega
   have hj3 : (0 : Int) < j + 1 := by omega
   have hj4 : (0 : Int) ≤ j + 1 := by omega
   have hj5 : ((j : Int) + 1).toNat = j + 1 := by omega
   simp -dsimp -implicitDefEqProofs [hp, hq, hj, hj2, hj3, hj4, hj5]
   intro hlen
   refine ⟨_, _, yC p.X 0 1000000000, by simp, .inr rfl, ?_⟩
   simp -dsimp -implicitDefEqProofs [hp, hq, hj, hj2, hj3, hj4, hj5]
   refine ⟨fun h2 => ?_, fun h2 => hbad (by simp [yhG, h2])⟩
   refine ⟨_, _, yC p.Y 0 1000000000, by simp, .inr rfl, ?_⟩
   simp -dsimp -implicitDefEqProofs [hp, hq, hj, hj2, hj3, hj4, hj5]
   refine ⟨fun h3 => ?_, fun h3 => hbad (by simp [yhG, h3])⟩
   have hpt : yhG p = true := by simp [yhG, h2, h3]
   unfold maxLen at hlen
   have hbad2 : follows q p = false → yay l = false := fun e => yrx hlt (by rw [ydY hp hq, e, Bool.and_false])
   refine ⟨by unfold inI; omega, fun h4 => ⟨by unfold inI; omega, fun h5 => ?_, fun h5 => ?_⟩, fun h4 => ?_⟩
   ·exact hbad2 (by simp [follows]; omega)
   ·have hf : follows q p = true := by simp [follows, h4, h5]
    exact ⟨by unfold inI; omega, j + 2, ⟨hlt, ynr hup (by rw [ydY hp hq, hpt, hf]; rfl)⟩, by omega, by apply yj <;> simp [AV.yc, AV.yA, Obj.yc]; omega⟩
   ·exact hbad2 (by simp [follows]; omega)
 ·simp -dsimp -implicitDefEqProofs [yah hge]
  intro hlen
  refine yg (yC l.length 2 20) (by simp) rfl ?_
  simp -dsimp -implicitDefEqProofs
  have e : k = l.length := by omega
  subst e
  simp [yay, hup]
def amount (n : Int) : Bool := inRange n 0 1000000000
def ydN (r : Reach) : Int := r.Volume + r.Pipe.sum
def yap (r : Reach) : Bool := yay r.Table && amount r.Volume && decide (r.Pipe.length ≤ 12) && r.Pipe.all amount && decide (ydN r ≤ 1000000000)
theorem yol : ∀ {l : List Int}, (∀ x ∈ l, amount x = true) → 0 ≤ l.sum
 | [], _ => by simp
 | x :: l, h => by
  have h1 := yol (l := l) fun y hy => h y (by simp [hy])
  have h2 := yR.1 (show inRange x 0 1000000000 = true from h x (by simp))
  simp only [List.sum_cons]; omega
theorem yAp {l : List Int} (k : Nat) : l.sum = sumTo l k + (l.drop k).sum := by
 unfold sumTo
 conv => lhs; rw [← List.take_append_drop k l]
 rw [List.sum_append]
theorem yGT {r : Reach} {k : Nat} {x : Int} (hx : r.Pipe[k]? = some x) (h : 1000000000 < r.Volume + sumTo r.Pipe k + x) : yap r = false := by
 cases hr : yap r with
 | false => rfl
 | true =>
  exfalso
  simp only [yap, Bool.and_eq_true, List.all_eq_true, decide_eq_true_eq] at hr
  obtain ⟨⟨_, h1⟩, h2⟩ := hr
  have h3 := yol (l := r.Pipe.drop (k + 1)) fun y hy => h1 y (List.mem_of_mem_drop hy)
  have h4 := yAp (l := r.Pipe) (k + 1)
  rw [yku hx] at h4
  unfold ydN at h2
  omega
theorem yuS {r : Reach} {k : Nat} {x : Int} (hx : r.Pipe[k]? = some x) (h : amount x = false) : yap r = false := by
 have : r.Pipe.all amount = false := all_false (p := amount) hx h
 simp [yap, this]
theorem ykz (r : Reach) : yF Tryz.prog ycP [.agg (r.enc.map .c)] (.c (.b (yap r))) := by
 refine yt ytH (by simp) fun hwf => ?_
 simp -dsimp -implicitDefEqProofs [ymp]
 refine yg (yjZ r.Table) (by simp) rfl ?_
 simp -dsimp -implicitDefEqProofs
 refine ⟨fun h1 => ?_, fun h1 => by simp [yap, h1]⟩
 refine yg (yE r.Volume 0 1000000000) (by simp) rfl ?_
 simp -dsimp -implicitDefEqProofs
 refine ⟨fun h2 hlen => ⟨fun h3 => ?_, fun h3 => ⟨?_, fun _ => ?_⟩⟩, fun h2 => by simp [yap, amount, h2]⟩
 ·have : ¬ r.Pipe.length ≤ 12 := by omega
  simp [yap, this]
 ·have := yR.1 h2
  unfold inI; omega
 have h2' := yR.1 h2
 refine yh (ι := Nat) (fun k => k ≤ r.Pipe.length ∧ (∀ n ∈ r.Pipe.take k, amount n = true) ∧ 0 ≤ sumTo r.Pipe k ∧ r.Volume + sumTo r.Pipe k ≤ 1000000000) (fun k => yP [(3, .c (.i (1000000000 - r.Volume - sumTo r.Pipe k))), (26, .c (.sl 1 (r.Pipe.map yac))), (27, .c (.i r.Pipe.length)), (28, .c (.i k))] []) (fun k => r.Pipe.length - k) 0 ⟨by simp, by simp, by simp [yhN], by simp only [yhN]; omega⟩ (by apply yj <;> simp [AV.yc, AV.yA, Obj.yc, yhN]) ?_
 rintro k ⟨hk, hall, hs0, hs⟩
 rcases Nat.lt_or_ge k r.Pipe.length with hlt | hge
 ·obtain ⟨x, hx⟩ : ∃ x, r.Pipe[k]? = some x := ⟨_, List.getElem?_eq_getElem hlt⟩
  simp -dsimp -implicitDefEqProofs [hx, yI hlt]
  refine ⟨fun h4 => ⟨fun h5 => ?_, fun h5 => ?_⟩, fun h4 => ?_⟩
  ·exact yGT hx (by omega)
  ·have ha : amount x = true := yR.2 (by omega)
   have e1 := yku hx
   refine ⟨by unfold inI; omega, yu hlt hlen, k + 1, ⟨hlt, yL (p := amount) hx hall ha, by rw [e1]; omega, by rw [e1]; omega⟩, by omega, ?_⟩
   apply yj <;> simp [AV.yc, AV.yA, Obj.yc, e1]; omega
  ·exact yuS hx (yco.2 (by omega))
 ·simp -dsimp -implicitDefEqProofs [yah hge]
  have h6 := yQ (p := amount) hge hall
  rw [yp1 hge] at hs
  simp [yap, h1, show amount r.Volume = true from h2, h6, ydN, hs]
  omega
theorem yqt {l : List Int} (h : ∀ n ∈ l, amount n = true) (hl : l.length ≤ 12) (k : Nat) : 0 ≤ sumTo l k ∧ sumTo l k ≤ 12000000000 := by
 have h1 := ym8 (l := l.take k) (b := 1000000000) fun x hx => h x (List.mem_of_mem_take hx)
 have h2 : (l.take k).length ≤ 12 := by simp; omega
 unfold sumTo
 omega
theorem yxZ (r : Reach) (hv : amount r.Volume = true) (hl : r.Pipe.length ≤ 12) (hp : ∀ n ∈ r.Pipe, amount n = true) : yF Tryz.prog yfJ [.agg (r.enc.map .c)] (.c (.i (ydN r))) := by
 refine yt yt7 (by simp) fun hwf => ?_
 have hv' := yR.1 (show inRange r.Volume 0 1000000000 = true from hv)
 simp -dsimp -implicitDefEqProofs [ynL]
 refine yh (ι := Nat) (fun k => k ≤ r.Pipe.length) (fun k => yP [(1, .box 1 0), (3, .c (.i (r.Volume + sumTo r.Pipe k))), (4, .c (.i k))] [(1, .box (r.enc.map .c))]) (fun k => r.Pipe.length - k) 0 (by simp) (by apply yj <;> simp [AV.yc, AV.yA, Obj.yc, yhN]) ?_
 rintro k hk
 rcases Nat.lt_or_ge k r.Pipe.length with hlt | hge
 ·obtain ⟨x, hx⟩ : ∃ x, r.Pipe[k]? = some x := ⟨_, List.getElem?_eq_getElem hlt⟩
  have e1 := yku hx
  have b1 := yqt hp hl (k + 1)
  rw [e1] at b1
  simp -dsimp -implicitDefEqProofs [hx, yI hlt]
  intro hlen
  refine ⟨by unfold inI; omega, yu hlt hlen, k + 1, hlt, by omega, ?_⟩
  apply yj <;> simp [AV.yc, AV.yA, Obj.yc, e1]; omega
 ·simp -dsimp -implicitDefEqProofs [yah hge]
  intro _
  rw [yp1 hge]; rfl
theorem yo1 (r : Reach) : yF Tryz.prog yeE [.agg (r.enc.map .c)] (.c (.b (yap r))) := by
 refine yt yrZ (by simp) fun hwf => ?_
 simp -dsimp -implicitDefEqProofs [ymL]
 refine yg (yj7 r.Table) (by simp) rfl ?_
 simp -dsimp -implicitDefEqProofs
 refine ⟨fun h1 => ?_, fun h1 => by simp [yap, h1]⟩
 refine yg (yC r.Volume 0 1000000000) (by simp) rfl ?_
 simp -dsimp -implicitDefEqProofs
 refine ⟨fun h2 hlen => ⟨fun h3 => ?_, fun h3 => ?_⟩, fun h2 => by simp [yap, amount, h2]⟩
 ·have : ¬ r.Pipe.length ≤ 12 := by omega
  simp [yap, this]
 refine yh (ι := Nat) (fun k => k ≤ r.Pipe.length ∧ (∀ n ∈ r.Pipe.take k, amount n = true)) (fun k => yP [(1, .box 1 0), (3, .c (.i k))] [(1, .box (r.enc.map .c))]) (fun k => r.Pipe.length - k) 0 ⟨by simp, by simp⟩ (by apply yj <;> simp [AV.yc, AV.yA, Obj.yc]) ?_
 rintro k ⟨hk, hall⟩
 rcases Nat.lt_or_ge k r.Pipe.length with hlt | hge
 ·obtain ⟨x, hx⟩ : ∃ x, r.Pipe[k]? = some x := ⟨_, List.getElem?_eq_getElem hlt⟩
  simp -dsimp -implicitDefEqProofs [hx, yI hlt]
  intro _
  refine yg (yC x 0 1000000000) (by simp) rfl ?_
  simp -dsimp -implicitDefEqProofs
  refine ⟨fun h4 => yuS hx h4, fun h4 => ?_⟩
  exact ⟨yu hlt hlen, k + 1, ⟨hlt, yL (p := amount) hx hall h4⟩, by omega, by apply yj <;> simp [AV.yc, AV.yA, Obj.yc]⟩
 ·simp -dsimp -implicitDefEqProofs [yah hge]
  intro _
  have h6 := yQ (p := amount) hge hall
  refine yg (yxZ r h2 (by omega) (List.all_eq_true.1 h6)) (by simp) rfl ?_
  simp -dsimp -implicitDefEqProofs
  have h3' : r.Pipe.length ≤ 12 := by omega
  simp [yap, h1, show amount r.Volume = true from h2, h6, h3']
theorem yAm {α : Type} {p : α → Bool} : ∀ {l : List α} {k : Nat} {q : α}, k ≤ (l.takeWhile p).length → l[k]? = some q → p q = true → k + 1 ≤ (l.takeWhile p).length
 | [], k, q, _, h, _ => by simp at h
 | x :: l, 0, q, _, h, hq => by
  simp at h; subst h
  simp [List.takeWhile_cons, hq]
 | x :: l, k + 1, q, hk, h, hq => by
  rw [List.takeWhile_cons] at hk ⊢
  split at hk
  ·rename_i hx
   rw [if_pos hx]
   have := yAm (l := l) (k := k) (by simpa using hk) (by simpa using h) hq
   simp only [List.length_cons]; omega
  ·simp at hk
theorem yz2 {α : Type} {p : α → Bool} : ∀ {l : List α} {k : Nat} {q : α}, k ≤ (l.takeWhile p).length → l[k]? = some q → p q = false → (l.takeWhile p).length = k
 | [], k, q, _, h, _ => by simp at h
 | x :: l, 0, q, _, h, hq => by
  simp at h; subst h
  simp [List.takeWhile_cons, hq]
 | x :: l, k + 1, q, hk, h, hq => by
  rw [List.takeWhile_cons] at hk ⊢
  split at hk
  ·rename_i hx
   rw [if_pos hx]
   have := yz2 (l := l) (k := k) (by simpa using hk) (by simpa using h) hq
   simp only [List.length_cons]; omega
  ·simp at hk
def seg (l : List Point) (x : Int) : Nat := (l.tail.takeWhile fun q => decide (q.X ≤ x)).length
theorem seg_next {l : List Point} {x : Int} {k : Nat} {q : Point} (hk : k ≤ seg l x) (hq : l[k + 1]? = some q) (h : q.X ≤ x) : k + 1 ≤ seg l x :=
 yAm hk (by rw [List.getElem?_tail]; exact hq) (by simp [h])
theorem ywV {l : List Point} {x : Int} {k : Nat} {q : Point} (hk : k ≤ seg l x) (hq : l[k + 1]? = some q) (h : x < q.X) : seg l x = k :=
 yz2 hk (by rw [List.getElem?_tail]; exact hq) (by simp; omega)
theorem yrO {l : List Point} : ∀ {n k : Nat}, upTo l n = true → k < n → ykI l k = true
 | 0, k, _, h => by omega
 | n + 1, k, h, hk => by
  simp only [upTo, Bool.and_eq_true] at h
  rcases Nat.lt_or_ge k n with h1 | h1
  ·exact yrO h.1 h1
  ·have : k = n := by omega
   subst this; exact h.2
structure TableFacts (l : List Point) : Prop where
 len : 2 ≤ l.length ∧ l.length ≤ 20
 pt : ∀ (k : Nat) (p : Point), l[k]? = some p → (0 ≤ p.X ∧ p.X ≤ 1000000000) ∧ (0 ≤ p.Y ∧ p.Y ≤ 1000000000)
 up : ∀ (k : Nat) (p q : Point), l[k]? = some p → l[k + 1]? = some q → p.X < q.X ∧ p.Y ≤ q.Y
theorem yfg {l : List Point} (h : yay l = true) : TableFacts l := by
 simp only [yay, Bool.and_eq_true] at h
 obtain ⟨h1, h2⟩ := h
 have h3 := yR.1 h2
 refine ⟨by omega, fun k p hp => ?_, fun k p q hp hq => ?_⟩
 ·have hk := (List.getElem?_eq_some_iff.1 hp).1
  have hs := yrO h1 hk
  have : yhG p = true := by
   cases k with
   | zero => rw [yjf hp] at hs; exact hs
   | succ j =>
    rw [ydY hp (List.getElem?_eq_getElem (by omega)), Bool.and_eq_true] at hs
    exact hs.1
  simp only [yhG, Bool.and_eq_true] at this
  exact ⟨yR.1 this.1, yR.1 this.2⟩
 ·have hk := (List.getElem?_eq_some_iff.1 hq).1
  have hs := yrO h1 hk
  rw [ydY hq hp, Bool.and_eq_true] at hs
  have := hs.2
  simpa [follows] using this
def ymd (p q : Point) (x : Int) : Int := p.Y + ((x - p.X) * (q.Y - p.Y)).tdiv (q.X - p.X)
def yba (l : List Point) (k : Nat) : Point := l[k]?.getD default
theorem ya2 {l : List Point} {k : Nat} {p : Point} (h : l[k]? = some p) : yba l k = p := by simp [yba, h]
def yaq (l : List Point) (x : Int) : Int :=
 if yay l then if x ≤ (yba l 0).X then (yba l 0).Y else if (yba l (l.length - 1)).X ≤ x then (yba l (l.length - 1)).Y else ymd (yba l (seg l x)) (yba l (seg l x + 1)) x
 else 0
theorem yyv {l : List Point} (tf : TableFacts l) {k : Nat} {p q : Point} (hp : l[k]? = some p) (hq : l[k + 1]? = some q) {x v : Int} (hx : p.X ≤ x) (h4 : x < q.X) (hv : v = p.Y + ((x - p.X) * (q.Y - p.Y)).tdiv (q.X - p.X)) :
 inI (x - p.X) ∧ inI (q.Y - p.Y) ∧ inI ((x - p.X) * (q.Y - p.Y)) ∧ inI (q.X - p.X) ∧ ¬q.X - p.X = 0 ∧ inI (((x - p.X) * (q.Y - p.Y)).tdiv (q.X - p.X)) ∧ inI (p.Y + ((x - p.X) * (q.Y - p.Y)).tdiv (q.X - p.X)) ∧ v = p.Y + ((x - p.X) * (q.Y - p.Y)).tdiv (q.X - p.X) := by
 have b1 := tf.pt k p hp
 have b2 := tf.pt (k + 1) q hq
 have b3 := tf.up k p q hp hq
 have c1 : 0 ≤ (x - p.X) * (q.Y - p.Y) := Int.mul_nonneg (by omega) (by omega)
 have c2 : (x - p.X) * (q.Y - p.Y) ≤ 1000000000 * 1000000000 := Int.mul_le_mul (by omega) (by omega) (by omega) (by omega)
 have c3 : ((x - p.X) * (q.Y - p.Y)).tdiv (q.X - p.X) = ((x - p.X) * (q.Y - p.Y)) / (q.X - p.X) := Int.tdiv_eq_ediv_of_nonneg c1
 have c4 : 0 ≤ ((x - p.X) * (q.Y - p.Y)) / (q.X - p.X) := Int.ediv_nonneg c1 (by omega)
 have c5 : ((x - p.X) * (q.Y - p.Y)) / (q.X - p.X) ≤ (x - p.X) * (q.Y - p.Y) := Int.ediv_le_self _ c1
 refine ⟨by unfold inI; omega, by unfold inI; omega, by unfold inI; omega, by unfold inI; omega, by omega, ?_, ?_, hv⟩
 ·rw [c3]; unfold inI; omega
 ·rw [c3]; unfold inI; omega
theorem yvM (l : List Point) (x : Int) : yF Tryz.prog yhV [.c (.sl 2 (l.map Point.enc)), .c (.i x)] (.c (.i (yaq l x))) := by
 refine yt ytJ (by simp) fun hwf => ?_
 simp -dsimp -implicitDefEqProofs [ymq]
 refine yg (yjZ l) (by simp) rfl ?_
 cases h1 : yay l with
 | false =>
  simp -dsimp -implicitDefEqProofs
  simp [yaq, h1]
 | true =>
  have tf := yfg h1
  obtain ⟨hl1, hl2⟩ := tf.len
  obtain ⟨p0, e0⟩ : ∃ p, l[0]? = some p := ⟨_, List.getElem?_eq_getElem (by omega)⟩
  obtain ⟨pe, ee⟩ : ∃ p, l[l.length - 1]? = some p := ⟨_, List.getElem?_eq_getElem (by omega)⟩
  have f0 := (List.getElem?_eq_some_iff.1 e0).2
  have l0 : 0 < l.length := by omega
  have l1 : (1 : Int) ≤ l.length := by omega
  have l2 : (l.length : Int) - 1 < l.length := by omega
  have l3 : inI ((l.length : Int) - 1) := by unfold inI; omega
  simp -dsimp -implicitDefEqProofs [e0, ee, f0, l0, l1, l2, l3]
  have a0 : yba l 0 = p0 := ya2 e0
  have ae : yba l (l.length - 1) = pe := ya2 ee
  refine fun _ => ⟨fun h2 => by simp [yaq, h1, a0, h2], fun h2 => ⟨fun h3 => ?_, fun h3 => ?_⟩⟩
  ·have : ¬ x ≤ p0.X := by omega
   simp [yaq, h1, a0, ae, this, h3]
  have hv : yaq l x = ymd (yba l (seg l x)) (yba l (seg l x + 1)) x := by
   have g1 : ¬ x ≤ p0.X := by omega
   have g2 : ¬ pe.X ≤ x := by omega
   simp [yaq, h1, a0, ae, g1, g2]
  refine yh (ι := Nat) (fun k => k + 2 ≤ l.length ∧ k ≤ seg l x ∧ (yba l k).X ≤ x) (fun k => yP [(0, .c (.sl 2 (l.map Point.enc))), (1, .c (.i x)), (6, .c (.i k))] []) (fun k => l.length - k) 0 ⟨hl1, Nat.zero_le _, by rw [a0]; omega⟩ (by apply yj <;> simp [AV.yc, AV.yA, Obj.yc]) ?_
  rintro k ⟨hk, hs, hx⟩
  obtain ⟨p, hp⟩ : ∃ p, l[k]? = some p := ⟨_, List.getElem?_eq_getElem (by omega)⟩
  obtain ⟨q, hq⟩ : ∃ p, l[k + 1]? = some p := ⟨_, List.getElem?_eq_getElem (by omega)⟩
  rw [ya2 hp] at hx
  have i1 : (k : Int) + 1 < l.length := by omega
  have i2 : (k : Int) < l.length := by omega
  have i3 : (0 : Int) ≤ k + 1 := by omega
  have i4 : ((k : Int) + 1).toNat = k + 1 := by omega
  have i5 : inI ((k : Int) + 1) := by unfold inI; omega
  simp -dsimp -implicitDefEqProofs [hp, hq, i1, i2, i3, i4, i5]
  refine ⟨fun h4 => ⟨k + 1, ⟨?_, seg_next hs hq h4, by rw [ya2 hq]; exact h4⟩, by omega, by apply yj <;> simp [AV.yc, AV.yA, Obj.yc]⟩, fun h4 => ?_⟩
  ·rcases Nat.lt_or_ge (k + 2) l.length with g | g
   ·omega
   ·have e : l.length - 1 = k + 1 := by omega
    rw [e, hq] at ee
    cases ee
    omega
  ·exact yyv tf hp hq hx h4 (by rw [hv, ywV hs hq h4, ya2 hp, ya2 hq]; rfl)
theorem ywz (l : List Point) (x : Int) : yF Tryz.prog yhF [.c (.sl 2 (l.map Point.enc)), .c (.i x)] (.c (.i (yaq l x))) := by
 refine yt ytA (by simp) fun hwf => ?_
 simp -dsimp -implicitDefEqProofs [ylW]
 refine yg (yj7 l) (by simp) rfl ?_
 cases h1 : yay l with
 | false =>
  simp -dsimp -implicitDefEqProofs
  simp [yaq, h1]
 | true =>
  have tf := yfg h1
  obtain ⟨hl1, hl2⟩ := tf.len
  obtain ⟨p0, e0⟩ : ∃ p, l[0]? = some p := ⟨_, List.getElem?_eq_getElem (by omega)⟩
  obtain ⟨pe, ee⟩ : ∃ p, l[l.length - 1]? = some p := ⟨_, List.getElem?_eq_getElem (by omega)⟩
  have f0 := (List.getElem?_eq_some_iff.1 e0).2
  have l0 : 0 < l.length := by omega
  have l1 : (1 : Int) ≤ l.length := by omega
  have l2 : (l.length : Int) - 1 < l.length := by omega
  have l3 : inI ((l.length : Int) - 1) := by unfold inI; omega
  simp -dsimp -implicitDefEqProofs [e0, ee, f0, l0, l1, l2, l3]
  have a0 : yba l 0 = p0 := ya2 e0
  have ae : yba l (l.length - 1) = pe := ya2 ee
  refine fun _ => ⟨fun h2 => by simp [yaq, h1, a0, h2], fun h2 => ⟨fun h3 => ?_, fun h3 => ?_⟩⟩
  ·have : ¬ x ≤ p0.X := by omega
   simp [yaq, h1, a0, ae, this, h3]
  have hv : yaq l x = ymd (yba l (seg l x)) (yba l (seg l x + 1)) x := by
   have g1 : ¬ x ≤ p0.X := by omega
   have g2 : ¬ pe.X ≤ x := by omega
   simp [yaq, h1, a0, ae, g1, g2]
  refine yh (ι := Nat) (fun k => k + 2 ≤ l.length ∧ k ≤ seg l x ∧ (yba l k).X ≤ x) (fun k => yP [(0, .c (.sl 2 (l.map Point.enc))), (1, .c (.i x)), (6, .c (.i k))] []) (fun k => l.length - k) 0 ⟨hl1, Nat.zero_le _, by rw [a0]; omega⟩ (by apply yj <;> simp [AV.yc, AV.yA, Obj.yc]) ?_
  rintro k ⟨hk, hs, hx⟩
  obtain ⟨p, hp⟩ : ∃ p, l[k]? = some p := ⟨_, List.getElem?_eq_getElem (by omega)⟩
  obtain ⟨q, hq⟩ : ∃ p, l[k + 1]? = some p := ⟨_, List.getElem?_eq_getElem (by omega)⟩
  rw [ya2 hp] at hx
  have i1 : (k : Int) + 1 < l.length := by omega
  have i2 : (k : Int) < l.length := by omega
  have i3 : (0 : Int) ≤ k + 1 := by omega
  have i4 : ((k : Int) + 1).toNat = k + 1 := by omega
  have i5 : inI ((k : Int) + 1) := by unfold inI; omega
  simp -dsimp -implicitDefEqProofs [hp, hq, i1, i2, i3, i4, i5]
  refine ⟨fun h4 => ⟨k + 1, ⟨?_, seg_next hs hq h4, by rw [ya2 hq]; exact h4⟩, by omega, by apply yj <;> simp [AV.yc, AV.yA, Obj.yc]⟩, fun h4 => ?_⟩
  ·rcases Nat.lt_or_ge (k + 2) l.length with g | g
   ·omega
   ·have e : l.length - 1 = k + 1 := by omega
    rw [e, hq] at ee
    cases ee
    omega
  ·exact yyv tf hp hq hx h4 (by rw [hv, ywV hs hq h4, ya2 hp, ya2 hq]; rfl)
def least (f : Int → Bool) (lo : Int) : Nat → Int
 | 0 => lo
 | n + 1 => if f lo then lo else least f (lo + 1) n
theorem yxK {f : Int → Bool} : ∀ {n : Nat} {lo p : Int}, lo ≤ p → p ≤ lo + n → f p = true → (∀ z, lo ≤ z → z < p → f z = false) → least f lo n = p
 | 0, lo, p, h1, h2, h3, h4 => by simp only [least]; omega
 | n + 1, lo, p, h1, h2, h3, h4 => by
  simp only [least]
  by_cases e : lo = p
  ·subst e; rw [if_pos h3]
  ·rw [if_neg (by rw [h4 lo (Int.le_refl _) (by omega)]; simp)]
   exact yxK (by omega) (by omega) h3 fun z hz1 hz2 => h4 z (by omega) hz2
theorem yBx {a b d : Int} (ha : 0 ≤ a) (hab : a ≤ b) (hd : 0 < d) : a.tdiv d ≤ b.tdiv d := by
 rw [Int.tdiv_eq_ediv_of_nonneg ha, Int.tdiv_eq_ediv_of_nonneg (by omega)]
 exact Int.ediv_le_ediv hd hab
theorem yom {l : List Point} (tf : TableFacts l) {k : Nat} {p q : Point} (hp : l[k]? = some p) (hq : l[k + 1]? = some q) {x y : Int} (hx : p.X ≤ x) (hxy : x ≤ y) : ymd p q x ≤ ymd p q y := by
 have b3 := tf.up k p q hp hq
 unfold ymd
 have c1 : 0 ≤ (x - p.X) * (q.Y - p.Y) := Int.mul_nonneg (by omega) (by omega)
 have c2 : (x - p.X) * (q.Y - p.Y) ≤ (y - p.X) * (q.Y - p.Y) := Int.mul_le_mul_of_nonneg_right (by omega) (by omega)
 have := yBx c1 c2 (show 0 < q.X - p.X by omega)
 omega
theorem yyW {l : List Point} (tf : TableFacts l) {k : Nat} {p q : Point} (hp : l[k]? = some p) (hq : l[k + 1]? = some q) : ymd p q p.X = p.Y ∧ ymd p q q.X = q.Y := by
 have b3 := tf.up k p q hp hq
 unfold ymd
 refine ⟨by simp, ?_⟩
 rw [Int.mul_tdiv_cancel_left _ (by omega)]
 omega
theorem yB6 {α : Type} {p : α → Bool} : ∀ {l : List α} {i : Nat} {q : α}, i < (l.takeWhile p).length → l[i]? = some q → p q = true
 | [], i, q, h, _ => by simp at h
 | x :: l, i, q, h, hq => by
  rw [List.takeWhile_cons] at h
  split at h
  ·rename_i hx
   cases i with
   | zero => simp at hq; subst hq; exact hx
   | succ i => exact yB6 (l := l) (i := i) (by simpa using h) (by simpa using hq)
  ·simp at h
theorem yBJ {α : Type} {p : α → Bool} : ∀ {l : List α} {q : α}, l[(l.takeWhile p).length]? = some q → p q = false
 | [], q, h => by simp at h
 | x :: l, q, h => by
  rw [List.takeWhile_cons] at h
  split at h
  ·exact yBJ (l := l) (by simpa using h)
  ·rename_i hx
   simp at h; subst h; simpa using hx
theorem yf2 {l : List Point} (tf : TableFacts l) : ∀ {j i : Nat} {p q : Point}, i ≤ j → l[i]? = some p → l[j]? = some q → p.X ≤ q.X ∧ p.Y ≤ q.Y
 | 0, i, p, q, h, hp, hq => by
  have : i = 0 := by omega
  subst this; rw [hp] at hq; cases hq; omega
 | j + 1, i, p, q, h, hp, hq => by
  rcases Nat.lt_or_ge j i with h1 | h1
  ·have : i = j + 1 := by omega
   subst this; rw [hp] at hq; cases hq; omega
  ·have hj := (List.getElem?_eq_some_iff.1 hq).1
   obtain ⟨r, hr⟩ : ∃ r, l[j]? = some r := ⟨_, List.getElem?_eq_getElem (by omega)⟩
   have e1 := yf2 tf h1 hp hr
   have e2 := tf.up j r q hr hq
   omega
theorem yFQ {l : List Point} (tf : TableFacts l) {x : Int} (h0 : (yba l 0).X ≤ x) (h1 : x < (yba l (l.length - 1)).X) : ∃ p q, l[seg l x]? = some p ∧ l[seg l x + 1]? = some q ∧ p.X ≤ x ∧ x < q.X := by
 obtain ⟨hl1, hl2⟩ := tf.len
 have hlen : seg l x ≤ l.length - 1 := by
  unfold seg
  have := (List.takeWhile_sublist (fun q : Point => decide (q.X ≤ x)) (l := l.tail)).length_le
  simpa using this
 obtain ⟨e, he⟩ : ∃ e, l[l.length - 1]? = some e := ⟨_, List.getElem?_eq_getElem (by omega)⟩
 rw [ya2 he] at h1
 have hp : ∀ p, l[seg l x]? = some p → p.X ≤ x := by
  intro p hp
  cases hs : seg l x with
  | zero => rw [hs] at hp; rw [ya2 hp] at h0; exact h0
  | succ j =>
   rw [hs] at hp
   have := yB6 (p := fun q : Point => decide (q.X ≤ x)) (l := l.tail) (i := j) (q := p) (by show j < seg l x; omega) (by rw [List.getElem?_tail]; exact hp)
   simpa using this
 have hlt : seg l x < l.length - 1 := by
  rcases Nat.lt_or_ge (seg l x) (l.length - 1) with h | h
  ·exact h
  ·have e1 : seg l x = l.length - 1 := by omega
   have := hp e (by rw [e1]; exact he)
   omega
 obtain ⟨p, hp'⟩ : ∃ p, l[seg l x]? = some p := ⟨_, List.getElem?_eq_getElem (by omega)⟩
 obtain ⟨q, hq'⟩ : ∃ p, l[seg l x + 1]? = some p := ⟨_, List.getElem?_eq_getElem (by omega)⟩
 refine ⟨p, q, hp', hq', hp p hp', ?_⟩
 have := yBJ (p := fun q : Point => decide (q.X ≤ x)) (l := l.tail) (q := q) (by rw [List.getElem?_tail]; exact hq')
 simp at this
 omega
theorem yyi {l : List Point} (h : yay l = true) {x : Int} (h0 : (yba l 0).X < x) (h1 : x < (yba l (l.length - 1)).X) : yaq l x = ymd (yba l (seg l x)) (yba l (seg l x + 1)) x := by
 have g1 : ¬ x ≤ (yba l 0).X := by omega
 have g2 : ¬ (yba l (l.length - 1)).X ≤ x := by omega
 simp [yaq, h, g1, g2]
theorem ykC {l : List Point} (h : yay l = true) {x : Int} (h0 : x ≤ (yba l 0).X) : yaq l x = (yba l 0).Y := by simp [yaq, h, h0]
theorem yjX {l : List Point} (h : yay l = true) {x : Int} (h1 : (yba l (l.length - 1)).X ≤ x) : yaq l x = (yba l (l.length - 1)).Y := by
 have tf := yfg h
 obtain ⟨hl1, hl2⟩ := tf.len
 obtain ⟨e, he⟩ : ∃ e, l[l.length - 1]? = some e := ⟨_, List.getElem?_eq_getElem (by omega)⟩
 obtain ⟨p, hp⟩ : ∃ e, l[0]? = some e := ⟨_, List.getElem?_eq_getElem (by omega)⟩
 obtain ⟨q, hq⟩ : ∃ e, l[1]? = some e := ⟨_, List.getElem?_eq_getElem (by omega)⟩
 have e1 := tf.up 0 p q hp hq
 have e2 := yf2 tf (show 1 ≤ l.length - 1 by omega) hq he
 have g1 : ¬ x ≤ (yba l 0).X := by rw [ya2 hp]; rw [ya2 he] at h1; omega
 simp [yaq, h, g1, h1]
theorem yl9 {l : List Point} (h : yay l = true) {x : Int} (h0 : (yba l 0).X < x) (h1 : x < (yba l (l.length - 1)).X) :
 ∃ p q, l[seg l x]? = some p ∧ l[seg l x + 1]? = some q ∧ p.X ≤ x ∧ x < q.X ∧ yaq l x = ymd p q x ∧ p.Y ≤ yaq l x ∧ yaq l x ≤ q.Y := by
 have tf := yfg h
 obtain ⟨p, q, e1, e2, e3, e4⟩ := yFQ tf (Int.le_of_lt h0) h1
 have hv := yyi h h0 h1
 rw [ya2 e1, ya2 e2] at hv
 have hen := yyW tf e1 e2
 have m1 := yom tf e1 e2 (Int.le_refl _) e3
 have m2 := yom tf e1 e2 e3 (Int.le_of_lt e4)
 exact ⟨p, q, e1, e2, e3, e4, hv, by rw [hv]; omega, by rw [hv]; omega⟩
theorem yCu {l : List Point} (tf : TableFacts l) {x y : Int} (hxy : x ≤ y) {p q : Point} (hp : l[seg l x]? = some p) (hx : p.X ≤ x) (hq : l[seg l y + 1]? = some q) (hy : y < q.X) : seg l x ≤ seg l y := by
 rcases Nat.lt_or_ge (seg l y) (seg l x) with h | h
 ·have := yf2 tf (show seg l y + 1 ≤ seg l x by omega) hq hp
  omega
 ·exact h
theorem yo9 {l : List Point} (h : yay l = true) {x y : Int} (hxy : x ≤ y) : yaq l x ≤ yaq l y := by
 have tf := yfg h
 obtain ⟨hl1, hl2⟩ := tf.len
 obtain ⟨e, he⟩ : ∃ e, l[l.length - 1]? = some e := ⟨_, List.getElem?_eq_getElem (by omega)⟩
 obtain ⟨f, hf⟩ : ∃ e, l[0]? = some e := ⟨_, List.getElem?_eq_getElem (by omega)⟩
 have hfe := yf2 tf (Nat.zero_le _) hf he
 rcases Int.lt_or_le (yba l 0).X y with hy | hy
 ·rcases Int.lt_or_le y (yba l (l.length - 1)).X with hy2 | hy2
  ·obtain ⟨p', q', a1, a2, a3, a4, a5, a6, a7⟩ := yl9 h hy hy2
   rcases Int.lt_or_le (yba l 0).X x with hx | hx
   ·obtain ⟨p, q, b1, b2, b3, b4, b5, b6, b7⟩ := yl9 h hx (by omega)
    have hs := yCu tf hxy b1 b3 a2 a4
    rcases Nat.lt_or_ge (seg l x) (seg l y) with hlt | hge
    ·have := yf2 tf (show seg l x + 1 ≤ seg l y by omega) b2 a1
     omega
    ·have e1 : seg l x = seg l y := by omega
     rw [e1] at b1 b2
     rw [b1] at a1; cases a1
     rw [b2] at a2; cases a2
     rw [a5, b5]
     exact yom tf b1 b2 b3 hxy
   ·rw [ykC h hx, ya2 hf]
    have := yf2 tf (Nat.zero_le _) hf a1
    omega
  ·rw [yjX h hy2, ya2 he]
   rcases Int.lt_or_le (yba l 0).X x with hx | hx
   ·rcases Int.lt_or_le x (yba l (l.length - 1)).X with hx2 | hx2
    ·obtain ⟨p, q, b1, b2, b3, b4, b5, b6, b7⟩ := yl9 h hx hx2
     have hk := (List.getElem?_eq_some_iff.1 b2).1
     have := yf2 tf (show seg l x + 1 ≤ l.length - 1 by omega) b2 he
     omega
    ·rw [yjX h hx2, ya2 he]; omega
   ·rw [ykC h hx, ya2 hf]; omega
 ·rw [ykC h hy, ykC h (by omega)]; omega
def ybF (l : List Point) (y : Int) : Int × Bool :=
 if yay l = true ∧ y ≤ (yba l (l.length - 1)).Y then (least (fun z => decide (y ≤ yaq l z)) (yba l 0).X ((yba l (l.length - 1)).X - (yba l 0).X).toNat, true) else (0, false)
theorem ytg {l : List Point} {y : Int} (h : yay l = false) : ybF l y = (0, false) := by simp [ybF, h]
theorem yqo {l : List Point} {y : Int} (h : (yba l (l.length - 1)).Y < y) : ybF l y = (0, false) := by
 have : ¬ y ≤ (yba l (l.length - 1)).Y := by omega
 simp [ybF, this]
theorem yst {l : List Point} {y p : Int} (h : yay l = true) (hy : y ≤ (yba l (l.length - 1)).Y) (h0 : (yba l 0).X ≤ p) (h1 : p ≤ (yba l (l.length - 1)).X) (hp : y ≤ yaq l p) (hz : ∀ z, (yba l 0).X ≤ z → z < p → yaq l z < y) : ybF l y = (p, true) := by
 simp only [ybF, h, hy, and_self, if_true]
 rw [yxK (p := p) h0 (by omega) (by simp [hp]) fun z z1 z2 => by have := hz z z1 z2; simp; omega]
theorem yfl {l : List Point} (h1 : yay l = true) : ∃ p0 pe, l[0]? = some p0 ∧ l[l.length - 1]? = some pe ∧ yba l 0 = p0 ∧ yba l (l.length - 1) = pe ∧ 0 ≤ p0.X ∧ p0.X ≤ pe.X ∧ pe.X ≤ 1000000000 ∧ 2 ≤ l.length ∧ l.length ≤ 20 ∧ 0 ≤ pe.Y ∧ pe.Y ≤ 1000000000 := by
 have tf := yfg h1
 obtain ⟨hl1, hl2⟩ := tf.len
 obtain ⟨p0, e0⟩ : ∃ p, l[0]? = some p := ⟨_, List.getElem?_eq_getElem (by omega)⟩
 obtain ⟨pe, ee⟩ : ∃ p, l[l.length - 1]? = some p := ⟨_, List.getElem?_eq_getElem (by omega)⟩
 have b1 := tf.pt _ _ e0
 have b2 := tf.pt _ _ ee
 have b3 := yf2 tf (Nat.zero_le _) e0 ee
 exact ⟨p0, pe, e0, ee, ya2 e0, ya2 ee, b1.1.1, b3.1, b2.1.2, hl1, hl2, b2.2.1, b2.2.2⟩
theorem yv9 (l : List Point) (y : Int) : yF Tryz.prog yhE [.c (.sl 2 (l.map Point.enc)), .c (.i y)] (.tup [.c (.i (ybF l y).1), .c (.b (ybF l y).2)]) := by
 refine yt ysO (by simp) fun hwf => ?_
 simp -dsimp -implicitDefEqProofs [ymf]
 refine yg (yjZ l) (by simp) rfl ?_
 cases h1 : yay l with
 | false =>
  simp -dsimp -implicitDefEqProofs
  simp [ytg h1]
 | true =>
  obtain ⟨p0, pe, e0, ee, a0, ae, b1, b2, b3, hl1, hl2, b4, b5⟩ := yfl h1
  have f0 := (List.getElem?_eq_some_iff.1 e0).2
  have l0 : 0 < l.length := by omega
  have l1 : (1 : Int) ≤ l.length := by omega
  have l2 : (l.length : Int) - 1 < l.length := by omega
  have l3 : inI ((l.length : Int) - 1) := by unfold inI; omega
  simp -dsimp -implicitDefEqProofs [e0, ee, f0, l0, l1, l2, l3]
  refine fun _ => ⟨fun h2 => ?_, fun h2 _ => ?_⟩
  ·simp [yqo (show (yba l (l.length - 1)).Y < y by rw [ae]; exact h2)]
  have hy : y ≤ (yba l (l.length - 1)).Y := by rw [ae]; omega
  have he : y ≤ yaq l pe.X := by rw [yjX h1 (by rw [ae]; exact Int.le_refl _), ae]; rw [ae] at hy; exact hy
  have hz : ∀ z, p0.X ≤ z → z < p0.X → yaq l z < y := fun z z1 z2 => absurd z2 (by omega)
  have hz' : ∀ z, p0.X ≤ z → z ≤ p0.X - 1 → yaq l z < y := fun z z1 z2 => absurd z2 (by omega)
  refine yh (ι := Int × Int) (fun p => p0.X ≤ p.1 ∧ p.1 ≤ p.2 ∧ p.2 ≤ pe.X ∧ y ≤ yaq l p.2 ∧ ∀ z, p0.X ≤ z → z < p.1 → yaq l z < y) (fun p => yP [(0, .c (.sl 2 (l.map Point.enc))), (1, .c (.i y)), (6, .c (.i p.1)), (7, .c (.i p.2))] []) (fun p => (p.2 - p.1).toNat) (p0.X, pe.X) ⟨Int.le_refl _, b2, Int.le_refl _, he, hz⟩ (by apply yj <;> simp [AV.yc, AV.yA, Obj.yc]) ?_
  rintro ⟨lo, hi⟩ ⟨c1, c2, c3, c4, c5⟩
  simp only at c1 c2 c3 c4 c5
  have hq : (lo + hi).tdiv 2 = (lo + hi) / 2 := Int.tdiv_eq_ediv_of_nonneg (by omega)
  simp -dsimp -implicitDefEqProofs
  refine ⟨fun h4 => ⟨by unfold inI; omega, by rw [hq]; unfold inI; omega, ?_⟩, fun h4 => ?_⟩
  ·refine yg (yvM l ((lo + hi).tdiv 2)) (by simp) rfl ?_
   simp -dsimp -implicitDefEqProofs
   rw [hq]
   refine ⟨fun h5 => ?_, fun h5 => ?_⟩
   ·exact ⟨lo, (lo + hi) / 2, ⟨c1, by omega, by omega, h5, c5⟩, by omega, by apply yj <;> simp [AV.yc, AV.yA, Obj.yc]⟩
   ·refine ⟨by unfold inI; omega, (lo + hi) / 2 + 1, hi, ⟨by omega, by omega, c3, c4, fun z z1 z2 => ?_⟩, by omega, by apply yj <;> simp [AV.yc, AV.yA, Obj.yc]⟩
    have := yo9 h1 (show z ≤ (lo + hi) / 2 by omega)
    omega
  ·have e : hi = lo := by omega
   subst e
   rw [yst h1 hy (by rw [a0]; exact c1) (by rw [ae]; exact c3) c4 (by rw [a0]; exact c5)]
   simp
theorem ywr (l : List Point) (y : Int) : yF Tryz.prog yhu [.c (.sl 2 (l.map Point.enc)), .c (.i y)] (.tup [.c (.i (ybF l y).1), .c (.b (ybF l y).2)]) := by
 refine yt ytd (by simp) fun hwf => ?_
 simp -dsimp -implicitDefEqProofs [ylY]
 refine yg (yj7 l) (by simp) rfl ?_
 cases h1 : yay l with
 | false =>
  simp -dsimp -implicitDefEqProofs
  simp [ytg h1]
 | true =>
  obtain ⟨p0, pe, e0, ee, a0, ae, b1, b2, b3, hl1, hl2, b4, b5⟩ := yfl h1
  have f0 := (List.getElem?_eq_some_iff.1 e0).2
  have l0 : 0 < l.length := by omega
  have l1 : (1 : Int) ≤ l.length := by omega
  have l2 : (l.length : Int) - 1 < l.length := by omega
  have l3 : inI ((l.length : Int) - 1) := by unfold inI; omega
  simp -dsimp -implicitDefEqProofs [e0, ee, f0, l0, l1, l2, l3]
  refine fun _ => ⟨fun h2 => ?_, fun h2 => ?_⟩
  ·simp [yqo (show (yba l (l.length - 1)).Y < y by rw [ae]; exact h2)]
  have hy : y ≤ (yba l (l.length - 1)).Y := by rw [ae]; omega
  have he : y ≤ yaq l pe.X := by rw [yjX h1 (by rw [ae]; exact Int.le_refl _), ae]; rw [ae] at hy; exact hy
  have hz : ∀ z, p0.X ≤ z → z < p0.X → yaq l z < y := fun z z1 z2 => absurd z2 (by omega)
  have hz' : ∀ z, p0.X ≤ z → z ≤ p0.X - 1 → yaq l z < y := fun z z1 z2 => absurd z2 (by omega)
  refine ⟨by unfold inI; omega, fun _ => ?_⟩
  refine yh (ι := Int × Int) (fun p => p0.X - 1 ≤ p.1 ∧ p.1 < p.2 ∧ p.2 ≤ pe.X ∧ y ≤ yaq l p.2 ∧ ∀ z, p0.X ≤ z → z ≤ p.1 → yaq l z < y) (fun p => yP [(0, .c (.sl 2 (l.map Point.enc))), (1, .c (.i y)), (6, .c (.i p.1)), (7, .c (.i p.2))] []) (fun p => (p.2 - p.1).toNat) (p0.X - 1, pe.X) ⟨Int.le_refl _, by simp only; omega, Int.le_refl _, he, hz'⟩ (by apply yj <;> simp [AV.yc, AV.yA, Obj.yc]) ?_
  rintro ⟨lo, hi⟩ ⟨c1, c2, c3, c4, c5⟩
  simp only at c1 c2 c3 c4 c5
  have hq : (hi - lo).tdiv 2 = (hi - lo) / 2 := Int.tdiv_eq_ediv_of_nonneg (by omega)
  simp -dsimp -implicitDefEqProofs
  refine ⟨by unfold inI; omega, fun h4 => ⟨by unfold inI; omega, by rw [hq]; unfold inI; omega, by rw [hq]; unfold inI; omega, ?_⟩, fun h4 => ?_⟩
  ·refine yg (ywz l (lo + (hi - lo).tdiv 2)) (by simp) rfl ?_
   simp -dsimp -implicitDefEqProofs
   rw [hq]
   refine ⟨fun h5 => ?_, fun h5 => ?_⟩
   ·exact ⟨lo, lo + (hi - lo) / 2, ⟨c1, by omega, by omega, h5, c5⟩, by omega, by apply yj <;> simp [AV.yc, AV.yA, Obj.yc]⟩
   ·refine ⟨lo + (hi - lo) / 2, hi, ⟨by omega, by omega, c3, c4, fun z z1 z2 => ?_⟩, by omega, by apply yj <;> simp [AV.yc, AV.yA, Obj.yc]⟩
    have := yo9 h1 (show z ≤ lo + (hi - lo) / 2 by omega)
    omega
  ·have e : hi = lo + 1 := by omega
   subst e
   rw [yst h1 hy (by rw [a0]; omega) (by rw [ae]; exact c3) c4 (by rw [a0]; exact fun z z1 z2 => c5 z z1 (by omega))]
   simp
theorem yx3 {l : List Point} {y : Int} (h : (ybF l y).2 = true) : yay l = true ∧ 0 ≤ (ybF l y).1 ∧ (ybF l y).1 ≤ 1000000000 := by
 unfold ybF at h ⊢
 split at h
 ·rename_i hh
  obtain ⟨p0, pe, e0, ee, a0, ae, b1, b2, b3, hl1, hl2, b4, b5⟩ := yfl hh.1
  rw [if_pos hh]
  have : ∀ (f : Int → Bool) (n : Nat) (lo : Int), lo ≤ least f lo n ∧ least f lo n ≤ lo + n := by
   intro f n
   induction n with
   | zero => intro lo; simp [least]
   | succ n ih =>
    intro lo
    simp only [least]
    have := ih (lo + 1)
    split <;> omega
  have := this (fun z => decide (y ≤ yaq l z)) ((yba l (l.length - 1)).X - (yba l 0).X).toNat (yba l 0).X
  rw [a0, ae] at this
  simp only [a0, ae]
  exact ⟨hh.1, by omega, by omega⟩
 ·simp at h
def ya3 (r : Reach) : Int := if yap r then (if (ybF r.Table r.Volume).2 then (ybF r.Table r.Volume).1 else (yba r.Table (r.Table.length - 1)).X) else 0
theorem ykD (r : Reach) : 0 ≤ ya3 r ∧ ya3 r ≤ 1000000000 := by
 unfold ya3
 split
 ·rename_i h
  have ht : yay r.Table = true := by simp [yap] at h; exact h.1.1.1.1
  obtain ⟨p0, pe, e0, ee, a0, ae, b1, b2, b3, hl1, hl2, b4, b5⟩ := yfl ht
  split
  ·rename_i hp; have := yx3 hp; omega
  ·rw [ae]; omega
 ·omega
theorem ypi (r : Reach) : yF Tryz.prog yeC [.agg (r.enc.map .c)] (.c (.i (ya3 r))) := by
 refine yt yrA (by simp) fun hwf => ?_
 simp -dsimp -implicitDefEqProofs [ylU]
 refine yg (ykz r) (by simp) rfl ?_
 cases h : yap r with
 | false => simp -dsimp -implicitDefEqProofs; simp [ya3, h]
 | true =>
  have ht : yay r.Table = true := by simp [yap] at h; exact h.1.1.1.1
  obtain ⟨p0, pe, e0, ee, a0, ae, b1, b2, b3, hl1, hl2, b4, b5⟩ := yfl ht
  simp -dsimp -implicitDefEqProofs
  refine yg (yv9 r.Table r.Volume) (by simp) rfl ?_
  cases hp : (ybF r.Table r.Volume).2 with
  | false =>
   have l2 : (r.Table.length : Int) - 1 < r.Table.length := by omega
   have l3 : inI ((r.Table.length : Int) - 1) := by unfold inI; omega
   have l1 : (1 : Int) ≤ r.Table.length := by omega
   simp -dsimp -implicitDefEqProofs [hp, ee, l1, l2, l3]
   intro _
   simp [ya3, h, hp, ae]
  | true => simp -dsimp -implicitDefEqProofs [hp]; simp [ya3, h, hp]
theorem ype (r : Reach) : yF Tryz.prog yez [.agg (r.enc.map .c)] (.c (.i (ya3 r))) := by
 refine yt ysC (by simp) fun hwf => ?_
 simp -dsimp -implicitDefEqProofs [ymv]
 refine yg (yo1 r) (by simp) rfl ?_
 cases h : yap r with
 | false => simp -dsimp -implicitDefEqProofs; simp [ya3, h]
 | true =>
  have ht : yay r.Table = true := by simp [yap] at h; exact h.1.1.1.1
  obtain ⟨p0, pe, e0, ee, a0, ae, b1, b2, b3, hl1, hl2, b4, b5⟩ := yfl ht
  simp -dsimp -implicitDefEqProofs
  refine yg (ywr r.Table r.Volume) (by simp) rfl ?_
  cases hp : (ybF r.Table r.Volume).2 with
  | false =>
   have l2 : (r.Table.length : Int) - 1 < r.Table.length := by omega
   have l3 : inI ((r.Table.length : Int) - 1) := by unfold inI; omega
   have l1 : (1 : Int) ≤ r.Table.length := by omega
   simp -dsimp -implicitDefEqProofs [hp, ee, l1, l2, l3]
   intro _
   simp [ya3, h, hp, ae]
  | true => simp -dsimp -implicitDefEqProofs [hp]; simp [ya3, h, hp]
theorem yzj (xs : List Point) (hl : ygZ xs) : ycE Tryz.prog ydx [.c (.sl 2 (xs.map Point.enc))] (.c (.ow 2 (xs.map Point.enc))) := by
 refine ybb yk8 (by simp) fun hwf => ?_
 simp -dsimp -implicitDefEqProofs [ygH]
 intro hlen
 have hl1 := hl.1
 refine ⟨by omega, ?_⟩
 refine yh (ι := Nat) (fun k => k ≤ xs.length) (fun k => yP [(0, .c (.sl 2 (xs.map Point.enc))), (3, .own 7 2 xs.length), (4, .c (.i k))] [(7, .row 2 (partly Point.enc [.i 0, .i 0] xs k))]) (fun k => xs.length - k) 0 (by simp) (by apply yj <;> simp [AV.yc, AV.yA, Obj.yc, yX]) ?_
 rintro k hk
 rcases Nat.lt_or_ge k xs.length with hlt | hge
 ·obtain ⟨e, he⟩ : ∃ e, xs[k]? = some e := ⟨_, List.getElem?_eq_getElem hlt⟩
  have hs := yae (f := Point.enc) (z := [.i 0, .i 0]) he
  have hd := yam (f := Point.enc) (z := [.i 0, .i 0]) (n := 2) rfl hlt
  simp only [Point.enc] at hs
  simp -dsimp -implicitDefEqProofs [he, yI hlt]
  refine fun _ => yJ (yu6 e ) (by simp) rfl ?_
  simp -dsimp -implicitDefEqProofs [yI hlt, yaf hk, hd, hs]
  exact ⟨hlt, yu hlt hlen, k + 1, hlt, by omega, by apply yj <;> simp [AV.yc, AV.yA, Obj.yc]⟩
 ·simp -dsimp -implicitDefEqProofs [yah hge]
  intro _
  rw [yad hge, List.take_of_length_le (by simp)]
@[simp] def Mover.yO (e : Mover) : List C := [.b e.Train.Up, .ot 1 (e.Train.Rows.map yS), .i e.Place]
theorem Mover.yaa (e : Mover) : ybV e.yO = some e.enc := by simp [Mover.yO, ybV, yc6 yef]
theorem yA1 (e : Mover) (hl : Mover.small e) : ycE Tryz.prog yeR [.agg (e.enc.map .c)] (.agg (e.yO.map .c)) := by
 refine ybb yl5 (by simp) fun hwf => ?_
 simp -dsimp -implicitDefEqProofs [yhU]
 refine yal (yna e.Train hl) (by simp) (by simp [AV.closed, AV.ybW, C.closed, yS]) (by simp [yau]) ?_
 simp -dsimp -implicitDefEqProofs [yK]
theorem yzv (xs : List Mover) (hl : xs.length ≤ 1048576 ∧ ∀ x ∈ xs, x.small) : ycE Tryz.prog ydH [.c (.sl 3 (xs.map Mover.enc))] (.c (.ot 3 (xs.map Mover.yO))) := by
 refine ybb ylc (by simp) fun hwf => ?_
 simp -dsimp -implicitDefEqProofs [yf8]
 intro hlen
 have hl1 := hl.1
 refine ⟨by omega, ?_⟩
 refine yh (ι := Nat) (fun k => k ≤ xs.length) (fun k => yP [(0, .c (.sl 3 (xs.map Mover.enc))), (3, .own 7 3 xs.length), (4, .c (.i k))] [(7, .tr 3 0 (partly Mover.yO [.b false, .sl 1 [], .i 0] xs k))]) (fun k => xs.length - k) 0 (by simp) (by apply yj <;> simp [AV.yc, AV.yA, Obj.yc, yX, Obj.leO]) ?_
 rintro k hk
 rcases Nat.lt_or_ge k xs.length with hlt | hge
 ·obtain ⟨e, he⟩ : ∃ e, xs[k]? = some e := ⟨_, List.getElem?_eq_getElem hlt⟩
  have hs := yae (f := Mover.yO) (z := [.b false, .sl 1 [], .i 0]) he
  have hd := yam (f := Mover.yO) (z := [.b false, .sl 1 [], .i 0]) (n := 3) rfl hlt
  simp only [Mover.yO] at hs
  simp -dsimp -implicitDefEqProofs [he, yI hlt]
  intro _
  refine yal (yA1 e (hl.2 e (List.mem_of_getElem? he))) (by simp) (by simp [AV.closed, AV.ybW, C.closed, yS]) (by simp [yau]) ?_
  simp -dsimp -implicitDefEqProofs [yI hlt, yaf hk, yK, hd, hs]
  exact ⟨hlt, yu hlt hlen, k + 1, hlt, by omega, by apply yj <;> simp [AV.yc, AV.yA, Obj.yc, Obj.leO]⟩
 ·simp -dsimp -implicitDefEqProofs [yah hge]
  intro _
  rw [yad hge, yK]
def mkP (k : Int) : List C := [.i k, .i (k + 1)]
theorem yvJ (xs : List Point) (k : Int) (h0 : 0 ≤ k) (h1 : k + 2 * xs.length ≤ 8000000000000000000) :
 InF Tryz.prog yer (.c (cw 2 (xs.map Point.enc))) (.c (cw 2 (marked mkP 2 [] k xs.length))) [.c (.i k)] (.c (.i (k + 2 * xs.length))) := by
 rcases Nat.eq_zero_or_pos xs.length with hx | hx
 ·have : xs = [] := List.length_eq_zero_iff.1 hx
  subst this
  refine ybq yix (by simp) (by simp) rfl fun hwf => ?_
  simp -dsimp -implicitDefEqProofs [yeo, marked]
  refine yh (ι := Unit) (fun _ => True) (fun _ => yP [(0, .c (.sl 2 [])), (1, .c (.i k)), (5, .c (.i 0)), (1000000, .c (.sl 2 []))] []) (fun _ => 0) () trivial (by apply yj <;> simp [AV.yc, AV.yA, Obj.yc]) ?_
  rintro _ _
  simp -dsimp -implicitDefEqProofs
 ·rw [ybx (by simpa using hx), ybx (by rw [yZ]; exact hx)]
  refine ybq yix (by simp) (by simp) rfl fun hwf => ?_
  simp -dsimp -implicitDefEqProofs [yeo]
  refine yh (ι := Nat) (fun i => i ≤ xs.length) (fun i => yP [(0, .own 0 2 xs.length), (1, .c (.i (k + 2 * i))), (5, .c (.i i)), (1000000, .own 0 2 xs.length)] [(0, .row 2 (marked mkP 2 (xs.map Point.enc) k i))]) (fun i => xs.length - i) 0 (by simp) (by apply yj <;> simp [AV.yc, AV.yA, Obj.yc, yd8]) ?_
  rintro i hi
  rcases Nat.lt_or_ge i xs.length with hlt | hge
  ·obtain ⟨e, he⟩ : ∃ e, xs[i]? = some e := ⟨_, List.getElem?_eq_getElem hlt⟩
   have hg := yfn (mk := mkP) (c := 2) (k := k) (rows := xs.map Point.enc) (i := i) (r := e.enc) (by simp [he])
   have hl := yfo (mk := mkP) (c := 2) (k := k) (rows := xs.map Point.enc) (i := i) (by simpa using hi)
   have hs := yfD (mk := mkP) (c := 2) (k := k) (rows := xs.map Point.enc) (i := i) (by simpa using hlt)
   rw [List.length_map] at hl
   generalize marked mkP 2 (xs.map Point.enc) k i = M at *
   have hlt2 : i < M.length := by omega
   have hself : ∀ a, (M.set i a)[i]? = some a := fun a => List.getElem?_set_self hlt2
   simp only [mkP] at hs
   simp only [Point.enc] at hg
   simp -dsimp -implicitDefEqProofs [yI hlt, hg, hl, hlt2, hself]
   intro hlen
   refine ⟨hlt, by unfold inI; omega, hlt, by unfold inI; omega, by unfold inI; omega, i + 1, hlt, by omega, ?_⟩
   apply yj <;> simp [AV.yc, AV.yA, Obj.yc, hs, hself] <;> omega
  ·have : i = xs.length := by omega
   subst this
   simp -dsimp -implicitDefEqProofs
   intro _
   have e := yfC (mk := mkP) (c := 2) (rows := xs.map Point.enc) (k := k) (i := xs.length) (by simp)
   rw [e, List.length_map, List.take_of_length_le (by rw [yZ]; exact Nat.le_refl _)]
@[simp] def Reach.yO (e : Reach) : List C := [.ow 2 (e.Table.map Point.enc), .i e.Volume, .ow 1 (e.Pipe.map yac)]
theorem Reach.yaa (e : Reach) : ybV e.yO = some e.enc := by simp [Reach.yO, ybV, C.shr]
theorem yAN (e : Reach) (hl : Reach.small e) : ycE Tryz.prog yeq [.agg (e.enc.map .c)] (.agg (e.yO.map .c)) := by
 refine ybb ylH (by simp) fun hwf => ?_
 simp -dsimp -implicitDefEqProofs [yhb]
 refine yal (yzj e.Table hl.1) (by simp ) (by simp [AV.closed, AV.ybW, C.closed]) (by simp [yau]) ?_
 simp -dsimp -implicitDefEqProofs [yK]
 refine yal (ypt e.Pipe hl.2.1) (by simp ) (by simp [AV.closed, AV.ybW, C.closed]) (by simp [yau]) ?_
 simp -dsimp -implicitDefEqProofs [yK]
def Reach.yt8 (e : Reach) : List C := [cw 2 (e.Table.map Point.enc), .i e.Volume, cw 1 (e.Pipe.map yac)]
def fM (k : Int) (e : Mover) : List C := [.b (decide (k.tmod 3 = 0)), .ot 1 (yaF fB nB (k + 1) e.Train.Rows), .i (k + 1 + cnt nB e.Train.Rows)]
def nM (e : Mover) : Nat := 1 + cnt nB e.Train.Rows + 1
theorem ywJ (xs : List Mover) (k : Int) (h0 : 0 ≤ k) (h1 : k + cnt nM xs ≤ 8000000000000000000) :
 InF Tryz.prog yeN (.c (ct 3 (xs.map Mover.yO))) (.c (ct 3 (yaF fM nM k xs))) [.c (.i k)] (.c (.i (k + cnt nM xs))) := by
 rcases Nat.eq_zero_or_pos xs.length with hx | hx
 ·have : xs = [] := List.length_eq_zero_iff.1 hx
  subst this
  refine ybq yia (by simp) (by simp) rfl fun hwf => ?_
  simp -dsimp -implicitDefEqProofs [yek, yaF, cnt]
  refine yh (ι := Unit) (fun _ => True) (fun _ => yP [(0, .c (.sl 3 [])), (1, .c (.i k)), (5, .c (.i 0)), (1000000, .c (.sl 3 []))] []) (fun _ => 0) () trivial (by apply yj <;> simp [AV.yc, AV.yA, Obj.yc]) ?_
  rintro _ _
  simp -dsimp -implicitDefEqProofs
 ·rw [ycp (by simpa using hx), ycp (by rw [yU]; exact hx)]
  refine ybq yia (by simp) (by simp) rfl fun hwf => ?_
  simp -dsimp -implicitDefEqProofs [yek]
  refine yh (ι := Nat) (fun i => i ≤ xs.length) (fun i => yP [(0, .own 0 3 xs.length), (1, .c (.i (k + yaY nM xs i))), (5, .c (.i i)), (1000000, .own 0 3 xs.length)] [(0, .tr 3 0 (ycc fM Mover.yO nM k xs i))]) (fun i => xs.length - i) 0 (by simp) (by apply yj <;> simp [AV.yc, AV.yA, Obj.yc, ycW, yb0, Obj.leO]) ?_
  rintro i hi
  rcases Nat.lt_or_ge i xs.length with hlt | hge
  ·obtain ⟨e, he⟩ : ∃ e, xs[i]? = some e := ⟨_, List.getElem?_eq_getElem hlt⟩
   have hg := ydZ (f := fM) (g := Mover.yO) (n := nM) (k := k) he
   have hl := yd2 (f := fM) (g := Mover.yO) (n := nM) (k := k) (xs := xs) (i := i)
   have hs := yd4 (f := fM) (g := Mover.yO) (n := nM) (k := k) he
   have hc := ybY (n := nM) he
   have hle := ydr (n := nM) (xs := xs) (i := i + 1)
   have hn : nM e = 1 + cnt nB e.Train.Rows + 1 := rfl
   generalize hM : ycc fM Mover.yO nM k xs i = M at *
   have hlt2 : i < M.length := by omega
   have g1 : M[i] = e.yO := (List.getElem?_eq_some_iff.1 hg).2
   have hself : ∀ a, (M.set i a)[i]? = some a := fun a => List.getElem?_set_self hlt2
   simp only [Mover.yO] at hg g1
   simp -dsimp -implicitDefEqProofs [yI hlt, hg, hl, hlt2, g1, hself, setAt]
   intro hlen
   have hk : 0 ≤ k + yaY nM xs i := by omega
   have c1 : C.ot 1 (e.Train.Rows.map yS) = C.ot 1 (e.Train.Rows.map yS) := rfl
   refine ⟨by have := Int.tmod_nonneg 3 hk; have := Int.tmod_lt_of_pos (k + yaY nM xs i) (b := 3) (by omega); unfold inI; omega, hlt, by unfold inI; omega, hlt, ?_⟩
   refine ybB (k0 := 3) (ver := 1) (j := 1) (i := (i : Int)) (r := [.b (decide ((k + yaY nM xs i).tmod 3 = 0)), .ot 1 (e.Train.Rows.map yS), .i e.Place]) (c := .ot 1 (e.Train.Rows.map yS)) (c' := .ot 1 (yaF fB nB (k + yaY nM xs i + 1) e.Train.Rows)) (ygX e.Train.Rows (k + yaY nM xs i + 1) (by omega) (by omega)) (by simp) rfl rfl rfl (by simpa using hself _) rfl ⟨_, by rw [yU]; simp, rfl, rfl, rfl⟩ (by simp [C.sz]) ?_
   simp -dsimp -implicitDefEqProofs [setAt, hself, hlt2, hl]
   refine ⟨hlt, by unfold inI; omega, yu hlt hlen, i + 1, hlt, by omega, ?_⟩
   simp only [fM] at hs
   apply yj <;> simp [AV.yc, AV.yA, Obj.yc, Obj.leO, hs] <;> omega
  ·have : i = xs.length := by omega
   subst this
   simp -dsimp -implicitDefEqProofs
   intro _
   rw [ydX (Nat.le_refl _), ycC (Nat.le_refl _), List.take_of_length_le (by rw [yU]; exact Nat.le_refl _)]
   exact ⟨rfl, rfl⟩
theorem yDL {t : Train} (h : TrainFacts t) : t.Rows.length ≤ 6 := by
 have : ∀ l : List (List Boat), (∀ r ∈ l, full r = true) → l.length ≤ l.flatten.length := by
  intro l
  induction l with
  | nil => simp
  | cons r l ih =>
   intro hl
   have e1 := ih fun x hx => hl x (by simp [hx])
   have e2 := ypa.1 (hl r (by simp))
   simp only [List.length_cons, List.flatten_cons, List.length_append]; omega
 have h1 := this t.Rows h.rows
 have h2 := h.len
 unfold Train.yY at h2
 omega
theorem yne {t : Train} (h : TrainFacts t) {k : Nat} {r : List Boat} (hr : t.Rows[k]? = some r) : 1 ≤ r.length ∧ r.length ≤ 6 ∧ ∀ b ∈ r, yaT b = true := by
 have h1 := ypa.1 (h.rows r (List.mem_of_getElem? hr))
 obtain ⟨m, e⟩ := yqD hr
 have h2 := h.len
 rw [e] at h2
 simp only [List.length_append] at h2
 exact ⟨by omega, by omega, fun b hb => h.ok b (by rw [e]; simp [hb])⟩
def sumF {α : Type} (f : α → Int) (l : List α) (k : Nat) : Int := ((l.take k).map f).sum
theorem yff {α : Type} {f : α → Int} {l : List α} : sumF f l 0 = 0 := rfl
theorem yjO {α : Type} {f : α → Int} {l : List α} {k : Nat} {x : α} (h : l[k]? = some x) : sumF f l (k + 1) = sumF f l k + f x := by
 unfold sumF; rw [List.take_succ, h, List.map_append, List.sum_append]; simp
theorem yjL {α : Type} {f : α → Int} {l : List α} {k : Nat} (h : l.length ≤ k) : sumF f l k = (l.map f).sum := by
 unfold sumF; rw [List.take_of_length_le h]
theorem ywF {α : Type} {f : α → Int} {l : List α} {c : Int} (hc : 0 ≤ c) (h : ∀ x ∈ l, 0 ≤ f x ∧ f x ≤ c) : ∀ k : Nat, 0 ≤ sumF f l k ∧ sumF f l k ≤ c * k
 | 0 => by simp [yff]
 | k + 1 => by
  have ih := ywF hc h k
  have e : c * ((k + 1 : Nat) : Int) = c * k + c := by rw [Int.natCast_add, Int.mul_add]; simp
  cases hk : l[k]? with
  | none =>
   have : l.length ≤ k := by simpa using hk
   have e2 : sumF f l (k + 1) = sumF f l k := by unfold sumF; rw [List.take_of_length_le (by omega), List.take_of_length_le this]
   rw [e2, e]; omega
  | some x =>
   have := h x (List.mem_of_getElem? hk)
   rw [yjO hk, e]; omega
def rowLen (r : List Boat) : Int := maxOf Boat.Length r 0
def yb9 (t : Train) : Int := if yH t then (t.Rows.map rowLen).sum else 0
theorem yAX {r : List Boat} (h : ∀ b ∈ r, yaT b = true) : 0 ≤ rowLen r ∧ rowLen r ≤ 200 :=
 ytr (fun x hx => by have := yp8 (h x hx); omega) (by omega) (by omega)
theorem ymy {t : Train} (h : TrainFacts t) {k : Nat} (hk : k ≤ t.Rows.length) : 0 ≤ sumF rowLen t.Rows k ∧ sumF rowLen t.Rows k ≤ 1200 := by
 have h1 := ywF (f := rowLen) (l := t.Rows) (c := 200) (by omega) (fun r hr => by
  obtain ⟨i, hi⟩ := List.getElem?_of_mem hr
  exact yAX (yne h hi).2.2) k
 have := yDL h
 omega
theorem ymt (t : Train) : 0 ≤ yb9 t ∧ yb9 t ≤ 1200 := by
 unfold yb9
 split
 ·rename_i h
  have := ymy (ybA h) (Nat.le_refl _)
  rw [yjL (Nat.le_refl _)] at this; exact this
 ·omega
theorem yuG (t : Train) (h : t.small) : yF Tryz.prog ygJ [.agg (t.enc.map .c)] (.c (.i (yb9 t))) := by
 refine yt yrn (by simp) fun hwf => ?_
 simp -dsimp -implicitDefEqProofs [ykY]
 refine yg (ybu t h) (by simp) rfl ?_
 simp -dsimp -implicitDefEqProofs
 refine ⟨fun h1 => by simp [yb9, h1], fun h1 hlen => ?_⟩
 have tf := ybA h1
 refine yh (ι := Nat) (fun k => k ≤ t.Rows.length) (fun k => yP [(3, .c (.i (sumF rowLen t.Rows k))), (13, .c (.sl 1 (t.Rows.map yV))), (14, .c (.i t.Rows.length)), (15, .c (.i k))] []) (fun k => t.Rows.length - k) 0 (by simp) (by apply yj <;> simp [AV.yc, AV.yA, Obj.yc, yff]) ?_
 rintro k hk
 rcases Nat.lt_or_ge k t.Rows.length with hlt | hge
 ·obtain ⟨r, hr⟩ : ∃ r, t.Rows[k]? = some r := ⟨_, List.getElem?_eq_getElem hlt⟩
  simp -dsimp -implicitDefEqProofs [hr, yI hlt]
  intro hrl
  refine yh (ι := Nat) (fun j => j ≤ r.length) (fun j => yP [(3, .c (.i (sumF rowLen t.Rows k))), (13, .c (.sl 1 (t.Rows.map yV))), (14, .c (.i t.Rows.length)), (15, .c (.i k)), (6, .c (.i (ylG Boat.Length r 0 j))), (19, .c (.sl 6 (r.map Boat.enc))), (20, .c (.i r.length)), (21, .c (.i j))] []) (fun j => r.length - j) 0 (by simp) (by apply yj <;> simp [AV.yc, AV.yA, Obj.yc, yfE]) ?_
  rintro j hj
  rcases Nat.lt_or_ge j r.length with hlt2 | hge2
  ·obtain ⟨b, hb⟩ : ∃ b, r[j]? = some b := ⟨_, List.getElem?_eq_getElem hlt2⟩
   simp -dsimp -implicitDefEqProofs [hb, yI hlt2]
   refine ⟨yu hlt2 hrl, j + 1, hlt2, by omega, ?_⟩
   apply yj <;> simp [AV.yc, AV.yA, Obj.yc, yj2 hb]
  ·simp -dsimp -implicitDefEqProofs [yah hge2]
   have b1 := ymy tf hk
   have b2 := ymy tf (show k + 1 ≤ t.Rows.length from hlt)
   have e := yjO (f := rowLen) hr
   rw [ynj hge2]
   have e' : sumF rowLen t.Rows (k + 1) = sumF rowLen t.Rows k + maxOf Boat.Length r 0 := e
   refine ⟨by unfold inI; omega, yu hlt hlen, k + 1, hlt, by omega, ?_⟩
   apply yj <;> simp [AV.yc, AV.yA, Obj.yc, e']
 ·simp -dsimp -implicitDefEqProofs [yah hge]
  simp [yb9, h1, yjL hge]
theorem yiN (t : Train) (h : t.small) : yF Tryz.prog ydB [.agg (t.enc.map .c)] (.c (.i (yb9 t))) := by
 refine yt yrs (by simp) fun hwf => ?_
 simp -dsimp -implicitDefEqProofs [ykU]
 refine yh (ι := Nat) (fun k => k ≤ t.Rows.length ∧ (k ≠ 0 → yH t = true)) (fun k => yP [(1, .box 1 0), (3, .c (.i (sumF rowLen t.Rows k))), (4, .c (.i k))] [(1, .box (t.enc.map .c))]) (fun k => t.Rows.length - k) 0 (by simp) (by apply yj <;> simp [AV.yc, AV.yA, Obj.yc, yff]) ?_
 rintro k ⟨hk, hok⟩
 have fin : yH t = false → k = 0 := fun h1 => by
  rcases Nat.eq_zero_or_pos k with e | e
  ·exact e
  ·rw [hok (by omega)] at h1; cases h1
 rcases Nat.lt_or_ge k t.Rows.length with hlt | hge
 ·obtain ⟨r, hr⟩ : ∃ r, t.Rows[k]? = some r := ⟨_, List.getElem?_eq_getElem hlt⟩
  simp -dsimp -implicitDefEqProofs [hr, yI hlt]
  intro hlen
  refine yg (ybg t h) (by simp) rfl ?_
  simp -dsimp -implicitDefEqProofs [hr, yI hlt]
  refine ⟨fun h1 => ?_, fun h1 => ?_⟩
  ·have tf := ybA h1
   refine yh (ι := Nat) (fun j => j ≤ r.length) (fun j => yP [(1, .box 1 0), (3, .c (.i (sumF rowLen t.Rows k))), (4, .c (.i k)), (5, .c (.i (ylG Boat.Length r 0 j))), (6, .c (.i j))] [(1, .box (t.enc.map .c))]) (fun j => r.length - j) 0 (by simp) (by apply yj <;> simp [AV.yc, AV.yA, Obj.yc, yfE]) ?_
   rintro j hj
   rcases Nat.lt_or_ge j r.length with hlt2 | hge2
   ·obtain ⟨b, hb⟩ : ∃ b, r[j]? = some b := ⟨_, List.getElem?_eq_getElem hlt2⟩
    simp -dsimp -implicitDefEqProofs [hr, yI hlt, hb, yI hlt2]
    intro hrl
    refine ⟨yu hlt2 hrl, j + 1, hlt2, by omega, ?_⟩
    apply yj <;> simp [AV.yc, AV.yA, Obj.yc, yj2 hb]
   ·simp -dsimp -implicitDefEqProofs [hr, yI hlt, yah hge2]
    have b1 := ymy tf hk
    have b2 := ymy tf (show k + 1 ≤ t.Rows.length from hlt)
    have e' : sumF rowLen t.Rows (k + 1) = sumF rowLen t.Rows k + maxOf Boat.Length r 0 := yjO (f := rowLen) hr
    rw [ynj hge2]
    refine fun _ => ⟨by unfold inI; omega, yu hlt hlen, k + 1, ⟨hlt, fun _ => h1⟩, by omega, ?_⟩
    apply yj <;> simp [AV.yc, AV.yA, Obj.yc, e']
  ·have := fin h1
   subst this
   simp [yb9, h1, yff]
 ·simp -dsimp -implicitDefEqProofs [yah hge]
  intro _
  by_cases h1 : yH t = true
  ·simp [yb9, h1, yjL hge]
  ·have := fin (by simpa using h1)
   subst this
   simp [yb9, h1, yff]
def ygk (r : List Boat) : Int := (r.map Boat.Width).sum
def yzt (l : List (List Boat)) : Int := l.foldl (fun m r => if m < ygk r then ygk r else m) 0
def ycY (l : List (List Boat)) (k : Nat) : Int := yzt (l.take k)
theorem yh2 {l : List (List Boat)} : ycY l 0 = 0 := rfl
theorem yqn {l : List (List Boat)} {k : Nat} {r : List Boat} (h : l[k]? = some r) : ycY l (k + 1) = if ycY l k < ygk r then ygk r else ycY l k := by
 unfold ycY yzt; rw [List.take_succ, h, List.foldl_append]; rfl
theorem yte {l : List (List Boat)} {k : Nat} (h : l.length ≤ k) : ycY l k = yzt l := by
 unfold ycY; rw [List.take_of_length_le h]
def yaR (t : Train) : Int := if yH t then yzt t.Rows else 0
theorem ysA {r : List Boat} (h : ∀ b ∈ r, yaT b = true) (h6 : r.length ≤ 6) {k : Nat} (hk : k ≤ r.length) : 0 ≤ sumF Boat.Width r k ∧ sumF Boat.Width r k ≤ 180 := by
 have := ywF (f := Boat.Width) (l := r) (c := 30) (by omega) (fun b hb => by have := yp8 (h b hb); omega) k
 omega
theorem yEj {l : List (List Boat)} (h : ∀ r ∈ l, 0 ≤ ygk r ∧ ygk r ≤ 180) : 0 ≤ yzt l ∧ yzt l ≤ 180 := by
 unfold yzt
 have : ∀ (l : List (List Boat)) (z : Int), (∀ r ∈ l, 0 ≤ ygk r ∧ ygk r ≤ 180) → 0 ≤ z → z ≤ 180 → 0 ≤ l.foldl (fun m r => if m < ygk r then ygk r else m) z ∧ l.foldl (fun m r => if m < ygk r then ygk r else m) z ≤ 180 := by
  intro l
  induction l with
  | nil => intro z _ h1 h2; exact ⟨h1, h2⟩
  | cons r l ih =>
   intro z h h1 h2
   have := h r (by simp)
   rw [List.foldl_cons]
   refine ih _ (fun y hy => h y (by simp [hy])) ?_ ?_ <;> split <;> omega
 exact this l 0 h (by omega) (by omega)
theorem yop (t : Train) : 0 ≤ yaR t ∧ yaR t ≤ 180 := by
 unfold yaR
 split
 ·rename_i h
  refine yEj fun r hr => ?_
  obtain ⟨i, hi⟩ := List.getElem?_of_mem hr
  obtain ⟨a1, a2, a3⟩ := yne (ybA h) hi
  have := ysA a3 a2 (Nat.le_refl _)
  rw [yjL (Nat.le_refl _)] at this; exact this
 ·omega
theorem yvx (t : Train) (h : t.small) : yF Tryz.prog yhc [.agg (t.enc.map .c)] (.c (.i (yaR t))) := by
 refine yt ys5 (by simp) fun hwf => ?_
 simp -dsimp -implicitDefEqProofs [ylS]
 refine yg (ybu t h) (by simp) rfl ?_
 simp -dsimp -implicitDefEqProofs
 refine ⟨fun h1 => by simp [yaR, h1], fun h1 hlen => ?_⟩
 have tf := ybA h1
 refine yh (ι := Nat) (fun k => k ≤ t.Rows.length) (fun k => yP [(3, .c (.i (ycY t.Rows k))), (13, .c (.sl 1 (t.Rows.map yV))), (14, .c (.i t.Rows.length)), (15, .c (.i k))] []) (fun k => t.Rows.length - k) 0 (by simp) (by apply yj <;> simp [AV.yc, AV.yA, Obj.yc, yh2]) ?_
 rintro k hk
 rcases Nat.lt_or_ge k t.Rows.length with hlt | hge
 ·obtain ⟨r, hr⟩ : ∃ r, t.Rows[k]? = some r := ⟨_, List.getElem?_eq_getElem hlt⟩
  obtain ⟨a1, a2, a3⟩ := yne tf hr
  simp -dsimp -implicitDefEqProofs [hr, yI hlt]
  intro hrl
  refine yh (ι := Nat) (fun j => j ≤ r.length) (fun j => yP [(3, .c (.i (ycY t.Rows k))), (13, .c (.sl 1 (t.Rows.map yV))), (14, .c (.i t.Rows.length)), (15, .c (.i k)), (6, .c (.i (sumF Boat.Width r j))), (19, .c (.sl 6 (r.map Boat.enc))), (20, .c (.i r.length)), (21, .c (.i j))] []) (fun j => r.length - j) 0 (by simp) (by apply yj <;> simp [AV.yc, AV.yA, Obj.yc, yff]) ?_
  rintro j hj
  rcases Nat.lt_or_ge j r.length with hlt2 | hge2
  ·obtain ⟨b, hb⟩ : ∃ b, r[j]? = some b := ⟨_, List.getElem?_eq_getElem hlt2⟩
   have b1 := ysA a3 a2 (show j + 1 ≤ r.length from hlt2)
   have e := yjO (f := Boat.Width) hb
   simp -dsimp -implicitDefEqProofs [hb, yI hlt2]
   refine ⟨by unfold inI; omega, yu hlt2 hrl, j + 1, hlt2, by omega, ?_⟩
   apply yj <;> simp [AV.yc, AV.yA, Obj.yc, e]
  ·simp -dsimp -implicitDefEqProofs [yah hge2]
   rw [yjL hge2]
   have e : ycY t.Rows (k + 1) = if ycY t.Rows k < (r.map Boat.Width).sum then (r.map Boat.Width).sum else ycY t.Rows k := yqn hr
   refine ⟨yu hlt hlen, k + 1, hlt, by omega, ?_⟩
   apply yj <;> simp [AV.yc, AV.yA, Obj.yc, e]
 ·simp -dsimp -implicitDefEqProofs [yah hge]
  simp [yaR, h1, yte hge]
theorem ywE (t : Train) (h : t.small) : yF Tryz.prog yhQ [.agg (t.enc.map .c)] (.c (.i (yaR t))) := by
 refine yt yta (by simp) fun hwf => ?_
 simp -dsimp -implicitDefEqProofs [ymA]
 refine yh (ι := Nat) (fun k => k ≤ t.Rows.length ∧ (k ≠ 0 → yH t = true)) (fun k => yP [(1, .box 1 0), (3, .c (.i (ycY t.Rows k))), (4, .c (.i k))] [(1, .box (t.enc.map .c))]) (fun k => t.Rows.length - k) 0 (by simp) (by apply yj <;> simp [AV.yc, AV.yA, Obj.yc, yh2]) ?_
 rintro k ⟨hk, hok⟩
 have fin : yH t = false → k = 0 := fun h1 => by
  rcases Nat.eq_zero_or_pos k with e | e
  ·exact e
  ·rw [hok (by omega)] at h1; cases h1
 rcases Nat.lt_or_ge k t.Rows.length with hlt | hge
 ·obtain ⟨r, hr⟩ : ∃ r, t.Rows[k]? = some r := ⟨_, List.getElem?_eq_getElem hlt⟩
  simp -dsimp -implicitDefEqProofs [hr, yI hlt]
  intro hlen
  refine yg (ybg t h) (by simp) rfl ?_
  simp -dsimp -implicitDefEqProofs [hr, yI hlt]
  refine ⟨fun h1 => ?_, fun h1 => ?_⟩
  ·have tf := ybA h1
   obtain ⟨a1, a2, a3⟩ := yne tf hr
   refine yh (ι := Nat) (fun j => j ≤ r.length) (fun j => yP [(1, .box 1 0), (3, .c (.i (ycY t.Rows k))), (4, .c (.i k)), (5, .c (.i (sumF Boat.Width r j))), (6, .c (.i j))] [(1, .box (t.enc.map .c))]) (fun j => r.length - j) 0 (by simp) (by apply yj <;> simp [AV.yc, AV.yA, Obj.yc, yff]) ?_
   rintro j hj
   rcases Nat.lt_or_ge j r.length with hlt2 | hge2
   ·obtain ⟨b, hb⟩ : ∃ b, r[j]? = some b := ⟨_, List.getElem?_eq_getElem hlt2⟩
    have b1 := ysA a3 a2 (show j + 1 ≤ r.length from hlt2)
    have e := yjO (f := Boat.Width) hb
    simp -dsimp -implicitDefEqProofs [hr, yI hlt, hb, yI hlt2]
    intro hrl
    refine ⟨by unfold inI; omega, yu hlt2 hrl, j + 1, hlt2, by omega, ?_⟩
    apply yj <;> simp [AV.yc, AV.yA, Obj.yc, e]
   ·simp -dsimp -implicitDefEqProofs [hr, yI hlt, yah hge2]
    have e : ycY t.Rows (k + 1) = if ycY t.Rows k < (r.map Boat.Width).sum then (r.map Boat.Width).sum else ycY t.Rows k := yqn hr
    rw [yjL hge2]
    refine fun _ => ⟨yu hlt hlen, k + 1, ⟨hlt, fun _ => h1⟩, by omega, ?_⟩
    apply yj <;> simp [AV.yc, AV.yA, Obj.yc, e]
  ·have := fin h1
   subst this
   simp [yaR, h1, yh2]
 ·simp -dsimp -implicitDefEqProofs [yah hge]
  intro _
  by_cases h1 : yH t = true
  ·simp [yaR, h1, yte hge]
  ·have := fin (by simpa using h1)
   subst this
   simp [yaR, h1, yh2]
def ydb (e : Tariff) (l : Int) : Int := ybd (ykO e.PerClass l) fun l => ybd (ykO e.Weights l) fun l => l
theorem ypc : yeU ydb Tariff.small := by
 intro e l h0 h1
 unfold ydb
 rcases yfA e.PerClass _ h0 h1 with e0 | ⟨a0, b0, s0⟩
 ·exact .inl (yM (by omega))
 rw [yw a0]
 rcases yfA e.Weights _ a0 (by omega) with e1 | ⟨a1, b1, s1⟩
 ·exact .inl (yM (by omega))
 rw [yw a1]
 exact .inr ⟨a1, by omega, s0.1, s1.1⟩
theorem yym (e : Tariff) (l : Int) (h0 : 0 ≤ l) (h1 : l ≤ 1048576) : yF Tryz.prog ygC [.agg (e.enc.map .c), .c (.i l)] (.c (.i (ydb e l))) := by
 refine yt yrf (by simp) fun hwf => ?_
 simp -dsimp -implicitDefEqProofs [ylq]
 refine yg (ynq e.PerClass _ h0 h1) (by simp) rfl ?_
 simp -dsimp -implicitDefEqProofs
 refine ⟨fun h => by simp [ydb, yM h], fun p0 => ?_⟩
 have q0 := yll yfA e.PerClass h0 h1 p0
 refine yg (ynq e.Weights _ p0 q0) (by simp) rfl ?_
 simp -dsimp -implicitDefEqProofs
 refine ⟨fun h => by simp [ydb, yw p0, yM h], fun p1 => ?_⟩
 simp [ydb, yw p0, yw p1]
theorem ypQ {α β : Type} {f : α → β} {l : List α} : (l.map f).take l.length = l.map f := List.take_of_length_le (by simp)
def yaM (t : Train) : List Int := if yH t then t.yY.map ygE else []
def ygx (t : Train) (k : Nat) : List Int := (t.yY.take k).map ygE
theorem yh4 {t : Train} : ygx t 0 = [] := rfl
theorem yqw {t : Train} {k : Nat} {b : Boat} (h : t.yY[k]? = some b) : ygx t (k + 1) = ygx t k ++ [b.Id] := by
 unfold ygx; rw [List.take_succ, h, List.map_append]; rfl
theorem yrI {t : Train} {k : Nat} (h : t.yY.length ≤ k) : ygx t k = t.yY.map ygE := by
 unfold ygx; rw [List.take_of_length_le h]
theorem ysD {t : Train} {k : Nat} (h : k ≤ t.yY.length) : (ygx t k).length = k := by
 unfold ygx; simp; omega
theorem yxn (t : Train) (h : t.small) : yF Tryz.prog ykN [.agg (t.enc.map .c)] (.c (.sl 1 ((yaM t).map yac))) := by
 refine yt yvQ (by simp) fun hwf => ?_
 simp -dsimp -implicitDefEqProofs [yoX]
 refine yg (ybu t h) (by simp) rfl ?_
 cases h1 : yH t with
 | false => simp -dsimp -implicitDefEqProofs; simp [yaM, h1]
 | true =>
  have tf := ybA h1
  have h6 := tf.len
  simp -dsimp -implicitDefEqProofs
  refine yJ (yu3 t h) (by simp) rfl ?_
  simp -dsimp -implicitDefEqProofs
  intro hlen
  refine ym3 (k0 := 1) 3 1 (by simp) (by simp) (by decide) ?_
  refine yh (ι := Nat) (fun k => k ≤ t.yY.length) (fun k => yP [(3, .own 3 1 (ygx t k).length), (10, .c (.sl 6 (t.yY.map Boat.enc))), (11, .c (.i t.yY.length)), (12, .c (.i k))] [(3, .row 1 ((ygx t k).map yac))]) (fun k => t.yY.length - k) 0 (by simp) (by apply yj <;> simp [AV.yc, AV.yA, Obj.yc, yh4]) ?_
  rintro k hk
  have hkl := ysD hk
  rcases Nat.lt_or_ge k t.yY.length with hlt | hge
  ·obtain ⟨b, hb⟩ : ∃ b, t.yY[k]? = some b := ⟨_, List.getElem?_eq_getElem hlt⟩
   simp -dsimp -implicitDefEqProofs [hb, yI hlt]
   refine ⟨by omega, yu hlt hlen, k + 1, hlt, by omega, ?_⟩
   apply yj <;> simp [AV.yc, AV.yA, Obj.yc, yqw hb]
  ·simp -dsimp -implicitDefEqProofs [yah hge]
   rw [ypQ, yrI hge]
   simp [yaM, h1]
theorem yzs (t : Train) (h : t.small) : yF Tryz.prog yj4 [.agg (t.enc.map .c)] (.c (.sl 1 ((yaM t).map yac))) := by
 refine yt yvD (by simp) fun hwf => ?_
 simp -dsimp -implicitDefEqProofs [yoQ]
 refine yJ (yoC t h) (by simp) rfl ?_
 simp -dsimp -implicitDefEqProofs
 refine yh (ι := Nat) (fun k => k ≤ t.yY.length ∧ (k ≠ 0 → yH t = true)) (fun k => yP [(1, .box 1 0), (3, .own 6 1 (ygx t k).length), (4, .c (.sl 6 (t.yY.map Boat.enc))), (5, .c (.i k))] [(1, .box (t.enc.map .c)), (6, .row 1 ((ygx t k).map yac))]) (fun k => t.yY.length - k) 0 (by simp) (by apply yj <;> simp [AV.yc, AV.yA, Obj.yc, yh4]) ?_
 rintro k ⟨hk, hok⟩
 have hkl := ysD hk
 have fin : yH t = false → k = 0 := fun h1 => by
  rcases Nat.eq_zero_or_pos k with e | e
  ·exact e
  ·rw [hok (by omega)] at h1; cases h1
 rcases Nat.lt_or_ge k t.yY.length with hlt | hge
 ·obtain ⟨b, hb⟩ : ∃ b, t.yY[k]? = some b := ⟨_, List.getElem?_eq_getElem hlt⟩
  simp -dsimp -implicitDefEqProofs [hb, yI hlt]
  intro hlen
  refine yg (ybg t h) (by simp) rfl ?_
  cases h1 : yH t with
  | false =>
   have := fin h1
   subst this
   simp -dsimp -implicitDefEqProofs
   simp [yaM, h1, yh4]
  | true =>
   have h6 := (ybA h1).len
   simp -dsimp -implicitDefEqProofs [hb, yI hlt]
   refine ⟨by omega, yu hlt hlen, k + 1, by first | exact ⟨hlt, fun _ => h1⟩ | exact hlt, by omega, ?_⟩
   apply yj <;> simp [AV.yc, AV.yA, Obj.yc, yqw hb]
 ·simp -dsimp -implicitDefEqProofs [yah hge]
  intro _
  rw [ypQ]
  by_cases h1 : yH t = true
  ·rw [yrI hge]; simp [yaM, h1]
  ·have := fin (by simpa using h1)
   subst this
   simp [yaM, h1, yh4]
theorem ywN {t : Train} (h : yH t = true) : (yaM t).length ≤ 6 := by
 have := (ybA h).len
 simp [yaM, h]; omega
theorem yG5 {t : Train} (h : yH t = true) : (yaM t).Nodup := by
 have := (ybA h).nd
 simp only [yaM, h, if_true]; exact this
def yc3 : List Train → Int → Int := yeY ybC
def ya9 : List Train → Prop := ycr Train.small
theorem ykA : yeU yc3 ya9 := yiu yfO
theorem yqI (xs : List Train) (l : Int) (h0 : 0 ≤ l) (h1 : l ≤ 1048576) : yF Tryz.prog ydC [.c (.sl 2 (xs.map Train.enc)), .c (.i l)] (.c (.i (yc3 xs l))) := by
 refine yt yqS (by simp) fun hwf => ?_
 simp -dsimp -implicitDefEqProofs [ylo]
 intro hl
 have hs : szS xs.length l = if l - xs.length < 0 then -1 else l - xs.length := rfl
 refine ⟨by unfold maxLen at hl; unfold inI; omega, fun h => ?_, fun h => ?_⟩
 ·simp [yc3, yeY, ybd, hs, h]
 have h' : 0 ≤ l - xs.length := by omega
 have e0 : yc3 xs l = yan ybC xs (l - xs.length) := by
  have : szS xs.length l = l - xs.length := by rw [hs, if_neg (by omega)]
  simp only [yc3, yeY]
  rw [this, yw h']
 refine yh (ι := Nat × Int) (fun p => p.1 ≤ xs.length ∧ 0 ≤ p.2 ∧ p.2 ≤ 1048576 ∧ yan ybC (xs.drop p.1) p.2 = yc3 xs l) (fun p => yP [(0, .c (.sl 2 (xs.map Train.enc))), (1, .c (.i p.2)), (5, .c (.i p.1))] []) (fun p => xs.length - p.1) (0, l - xs.length) ⟨by simp, h', by simp only; omega, by simp [e0]⟩ (by apply yj <;> simp [AV.yc, AV.yA, Obj.yc]) ?_
 rintro ⟨k, q⟩ ⟨hk, hq0, hq1, hf⟩
 simp only at hk hq0 hq1 hf
 rcases Nat.lt_or_ge k xs.length with hlt | hge
 ·obtain ⟨e, he⟩ : ∃ e, xs[k]? = some e := ⟨_, List.getElem?_eq_getElem hlt⟩
  have hd : xs.drop k = e :: xs.drop (k + 1) := by
   rw [List.drop_eq_getElem_cons hlt, (List.getElem?_eq_some_iff.1 he).2]
  rw [hd, yan] at hf
  simp -dsimp -implicitDefEqProofs [he, yI hlt]
  refine fun _ => yg (ykj e q hq0 hq1) (by simp) rfl ?_
  simp -dsimp -implicitDefEqProofs
  refine ⟨fun h => by rw [← hf, yM h], fun h => ⟨yu hlt hl, k + 1, ⟨ybC e q, ?_⟩⟩⟩
  rw [yw h] at hf
  have hle : ybC e q ≤ 1048576 := by
   rcases yfO e q hq0 hq1 with e1 | e1
   ·omega
   ·omega
  exact ⟨⟨hlt, h, hle, hf⟩, by omega, by apply yj <;> simp [AV.yc, AV.yA, Obj.yc]⟩
 ·simp -dsimp -implicitDefEqProofs [yah hge]
  rw [List.drop_of_length_le hge] at hf
  intro _
  first | simpa [yan] using hf | simpa [yan] using hf.symm
theorem ysY (xs : List Train) (hl : ya9 xs) : yF Tryz.prog ycz [.c (.sl 2 (xs.map Train.enc))] (.c (.sl 2 (xs.map Train.enc))) := by
 refine yt ylr (by simp) fun hwf => ?_
 simp -dsimp -implicitDefEqProofs [ygf]
 intro hlen
 have hl1 := hl.1
 refine ⟨by omega, ?_⟩
 refine yh (ι := Nat) (fun k => k ≤ xs.length) (fun k => yP [(0, .c (.sl 2 (xs.map Train.enc))), (3, .own 7 2 xs.length), (4, .c (.i k))] [(7, .row 2 (partly Train.enc [.b false, .sl 1 []] xs k))]) (fun k => xs.length - k) 0 (by simp) (by apply yj <;> simp [AV.yc, AV.yA, Obj.yc, yX]) ?_
 rintro k hk
 rcases Nat.lt_or_ge k xs.length with hlt | hge
 ·obtain ⟨e, he⟩ : ∃ e, xs[k]? = some e := ⟨_, List.getElem?_eq_getElem hlt⟩
  have hs := yae (f := Train.enc) (z := [.b false, .sl 1 []]) he
  have hd := yam (f := Train.enc) (z := [.b false, .sl 1 []]) (n := 2) rfl hlt
  simp only [Train.enc] at hs
  simp -dsimp -implicitDefEqProofs [he, yI hlt]
  refine fun _ => yJ (ynp e (hl.2 e (List.mem_of_getElem? he))) (by simp) rfl ?_
  simp -dsimp -implicitDefEqProofs [yI hlt, yaf hk, hd, hs]
  exact ⟨hlt, yu hlt hlen, k + 1, hlt, by omega, by apply yj <;> simp [AV.yc, AV.yA, Obj.yc]⟩
 ·simp -dsimp -implicitDefEqProofs [yah hge]
  intro _
  rw [yad hge, List.take_of_length_le (by simp)]
theorem ysj (es fs : List Train) : yF Tryz.prog ydD [.c (.sl 2 (es.map Train.enc)), .c (.sl 2 (fs.map Train.enc))] (.c (.b (decide (es = fs)))) := by
 refine yt yrq (by simp) fun hwf => ?_
 simp -dsimp -implicitDefEqProofs [ylh]
 intro hl1 hl2
 refine ⟨fun h e => h (by rw [e]), fun hlen => ?_⟩
 have hlen' : es.length = fs.length := by omega
 refine yh (ι := Nat) (fun k => k ≤ es.length ∧ es.take k = fs.take k) (fun k => yP [(0, .c (.sl 2 (es.map Train.enc))), (1, .c (.sl 2 (fs.map Train.enc))), (5, .c (.i k))] []) (fun k => es.length - k) 0 (by simp) (by apply yj <;> simp [AV.yc, AV.yA, Obj.yc]) ?_
 rintro k ⟨hk, htk⟩
 rcases Nat.lt_or_ge k es.length with hlt | hge
 ·obtain ⟨e, he⟩ : ∃ e, es[k]? = some e := ⟨_, List.getElem?_eq_getElem hlt⟩
  obtain ⟨f, hf⟩ : ∃ f, fs[k]? = some f := ⟨_, List.getElem?_eq_getElem (by omega)⟩
  simp -dsimp -implicitDefEqProofs [he, hf, yI hlt, yI (hlen' ▸ hlt)]
  intro _
  refine ⟨_, _, ym9 e f, by simp, .inr rfl, ?_⟩
  simp -dsimp -implicitDefEqProofs
  refine ⟨fun h => ybl he hf h, fun h => ⟨yu hlt hl1, k + 1, ⟨hlt, yaI he hf htk h⟩, by omega, by apply yj <;> simp [AV.yc, AV.yA, Obj.yc]⟩⟩
 ·simp -dsimp -implicitDefEqProofs [yah hge]
  intro _
  exact ya5 hge hlen' htk
structure Lock where
 Length : Int
 Width : Int
 SillAbove : Int
 SillBelow : Int
 Base : Int
 Area : Int
 Rate : Int
 Water : Int
 Gate : Int
 Inside : List Train
 deriving DecidableEq, Inhabited
@[simp] def Lock.enc (e : Lock) : List C := [.i e.Length, .i e.Width, .i e.SillAbove, .i e.SillBelow, .i e.Base, .i e.Area, .i e.Rate, .i e.Water, .i e.Gate, .sl 2 (e.Inside.map Train.enc)]
-- Lock
def yio (e : Lock) (l : Int) : Int := ybd (yc3 e.Inside l) fun l => l
def Lock.small (e : Lock) : Prop := ya9 e.Inside
theorem yrC : yeU yio Lock.small := by
 intro e l h0 h1
 unfold yio
 rcases ykA e.Inside _ h0 h1 with e0 | ⟨a0, b0, s0⟩
 ·exact .inl (yM (by omega))
 rw [yw a0]
 exact .inr ⟨a0, by omega, s0⟩
theorem yAn (e : Lock) (l : Int) (h0 : 0 ≤ l) (h1 : l ≤ 1048576) : yF Tryz.prog yi0 [.agg (e.enc.map .c), .c (.i l)] (.c (.i (yio e l))) := by
 refine yt yuw (by simp) fun hwf => ?_
 simp -dsimp -implicitDefEqProofs [ynX]
 refine yg (yqI e.Inside _ h0 h1) (by simp) rfl ?_
 simp -dsimp -implicitDefEqProofs
 refine ⟨fun h => by simp [yio, yM h], fun p0 => ?_⟩
 simp [yio, yw p0]
theorem yCc (e : Lock) (hl : Lock.small e) : yF Tryz.prog yfM [.agg (e.enc.map .c)] (.agg (e.enc.map .c)) := by
 refine yt yoh (by simp) fun hwf => ?_
 simp -dsimp -implicitDefEqProofs [yiK]
 refine yJ (ysY e.Inside hl) (by simp) rfl ?_
 simp -dsimp -implicitDefEqProofs
theorem yC9 (a b : Lock) : yF Tryz.prog yi6 [.agg (a.enc.map .c), .agg (b.enc.map .c)] (.c (.b (decide (a = b)))) := by
 refine yt ytV (by simp) fun hwf => ?_
 obtain ⟨a0, a1, a2, a3, a4, a5, a6, a7, a8, a9⟩ := a
 obtain ⟨b0, b1, b2, b3, b4, b5, b6, b7, b8, b9⟩ := b
 simp -dsimp -implicitDefEqProofs [ynZ, Lock.mk.injEq]
 refine ⟨fun h => by simp_all, fun h0 => ?_⟩
 refine ⟨fun h => by simp_all, fun h1 => ?_⟩
 refine ⟨fun h => by simp_all, fun h2 => ?_⟩
 refine ⟨fun h => by simp_all, fun h3 => ?_⟩
 refine ⟨fun h => by simp_all, fun h4 => ?_⟩
 refine ⟨fun h => by simp_all, fun h5 => ?_⟩
 refine ⟨fun h => by simp_all, fun h6 => ?_⟩
 refine ⟨fun h => by simp_all, fun h7 => ?_⟩
 refine ⟨fun h => by simp_all, fun h8 => ?_⟩
 refine yg (ysj a9 b9) (by simp) rfl ?_
 simp -dsimp -implicitDefEqProofs
 refine ⟨fun h => by simp_all, fun h9 => ?_⟩
 simp_all
structure Weir where
 Gates : Int
 Open : Int
 Step : Int
 Crest : Int
 Width : Int
 deriving DecidableEq, Inhabited
@[simp] def Weir.enc (e : Weir) : List C := [.i e.Gates, .i e.Open, .i e.Step, .i e.Crest, .i e.Width]
-- Weir
theorem yxf (e : Weir) : yF Tryz.prog yiA [.agg (e.enc.map .c)] (.agg (e.enc.map .c)) := by
 refine yt ytY (by simp) fun hwf => ?_
 simp -dsimp -implicitDefEqProofs [ynT]
theorem yCN (a b : Weir) : yF Tryz.prog yiL [.agg (a.enc.map .c), .agg (b.enc.map .c)] (.c (.b (decide (a = b)))) := by
 refine yt yuB (by simp) fun hwf => ?_
 obtain ⟨a0, a1, a2, a3, a4⟩ := a
 obtain ⟨b0, b1, b2, b3, b4⟩ := b
 simp -dsimp -implicitDefEqProofs [ynY, Weir.mk.injEq]
 refine ⟨fun h => by simp_all, fun h0 => ?_⟩
 refine ⟨fun h => by simp_all, fun h1 => ?_⟩
 refine ⟨fun h => by simp_all, fun h2 => ?_⟩
 refine ⟨fun h => by simp_all, fun h3 => ?_⟩
 refine ⟨fun h => by simp_all, fun h4 => ?_⟩
 simp_all
structure Rule where
 Low : Int
 High : Int
 Flood : Int
 deriving DecidableEq, Inhabited
@[simp] def Rule.enc (e : Rule) : List C := [.i e.Low, .i e.High, .i e.Flood]
-- Rule
theorem yxR (e : Rule) : yF Tryz.prog yi1 [.agg (e.enc.map .c)] (.agg (e.enc.map .c)) := by
 refine yt yuH (by simp) fun hwf => ?_
 simp -dsimp -implicitDefEqProofs [yod]
theorem yC8 (a b : Rule) : yF Tryz.prog yi4 [.agg (a.enc.map .c), .agg (b.enc.map .c)] (.c (.b (decide (a = b)))) := by
 refine yt yuv (by simp) fun hwf => ?_
 obtain ⟨a0, a1, a2⟩ := a
 obtain ⟨b0, b1, b2⟩ := b
 simp -dsimp -implicitDefEqProofs [yny, Rule.mk.injEq]
 refine ⟨fun h => by simp_all, fun h0 => ?_⟩
 refine ⟨fun h => by simp_all, fun h1 => ?_⟩
 refine ⟨fun h => by simp_all, fun h2 => ?_⟩
 simp_all
structure Pause where
 From : Int
 Until : Int
 deriving DecidableEq, Inhabited
@[simp] def Pause.enc (e : Pause) : List C := [.i e.From, .i e.Until]
-- Pause
theorem yuT (e : Pause) : yF Tryz.prog yhX [.agg (e.enc.map .c)] (.agg (e.enc.map .c)) := by
 refine yt ysV (by simp) fun hwf => ?_
 simp -dsimp -implicitDefEqProofs [ymw]
theorem yBw (a b : Pause) : yF Tryz.prog yhs [.agg (a.enc.map .c), .agg (b.enc.map .c)] (.c (.b (decide (a = b)))) := by
 refine yt ytq (by simp) fun hwf => ?_
 obtain ⟨a0, a1⟩ := a
 obtain ⟨b0, b1⟩ := b
 simp -dsimp -implicitDefEqProofs [ymV, Pause.mk.injEq]
 refine ⟨fun h => by simp_all, fun h0 => ?_⟩
 refine ⟨fun h => by simp_all, fun h1 => ?_⟩
 simp_all
-- []Pause
def yjN (xs : List Pause) (l : Int) : Int := szS xs.length l
def ygW : List Pause → Prop := ycr fun _ => True
theorem ypb : yeU yjN ygW := yj1
theorem yw0 (xs : List Pause) (l : Int) (h0 : 0 ≤ l) (h1 : l ≤ 1048576) : yF Tryz.prog ygm [.c (.sl 2 (xs.map Pause.enc)), .c (.i l)] (.c (.i (yjN xs l))) := by
 refine yt yrp (by simp) fun hwf => ?_
 simp -dsimp -implicitDefEqProofs [ylp, yjN, szS]
 intro hl
 unfold maxLen at hl
 refine ⟨by unfold inI; omega, fun h => ?_, fun h => ?_⟩ <;> intros <;> omega
theorem yyX (xs : List Pause) (hl : ygW xs) : yF Tryz.prog ydy [.c (.sl 2 (xs.map Pause.enc))] (.c (.sl 2 (xs.map Pause.enc))) := by
 refine yt yla (by simp) fun hwf => ?_
 simp -dsimp -implicitDefEqProofs [yf9]
 intro hlen
 have hl1 := hl.1
 refine ⟨by omega, ?_⟩
 refine yh (ι := Nat) (fun k => k ≤ xs.length) (fun k => yP [(0, .c (.sl 2 (xs.map Pause.enc))), (3, .own 7 2 xs.length), (4, .c (.i k))] [(7, .row 2 (partly Pause.enc [.i 0, .i 0] xs k))]) (fun k => xs.length - k) 0 (by simp) (by apply yj <;> simp [AV.yc, AV.yA, Obj.yc, yX]) ?_
 rintro k hk
 rcases Nat.lt_or_ge k xs.length with hlt | hge
 ·obtain ⟨e, he⟩ : ∃ e, xs[k]? = some e := ⟨_, List.getElem?_eq_getElem hlt⟩
  have hs := yae (f := Pause.enc) (z := [.i 0, .i 0]) he
  have hd := yam (f := Pause.enc) (z := [.i 0, .i 0]) (n := 2) rfl hlt
  simp only [Pause.enc] at hs
  simp -dsimp -implicitDefEqProofs [he, yI hlt]
  refine fun _ => yJ (yuT e ) (by simp) rfl ?_
  simp -dsimp -implicitDefEqProofs [yI hlt, yaf hk, hd, hs]
  exact ⟨hlt, yu hlt hlen, k + 1, hlt, by omega, by apply yj <;> simp [AV.yc, AV.yA, Obj.yc]⟩
 ·simp -dsimp -implicitDefEqProofs [yah hge]
  intro _
  rw [yad hge, List.take_of_length_le (by simp)]
theorem yy1 (es fs : List Pause) : yF Tryz.prog ygD [.c (.sl 2 (es.map Pause.enc)), .c (.sl 2 (fs.map Pause.enc))] (.c (.b (decide (es = fs)))) := by
 refine yt yro (by simp) fun hwf => ?_
 simp -dsimp -implicitDefEqProofs [ykZ]
 intro hl1 hl2
 refine ⟨fun h e => h (by rw [e]), fun hlen => ?_⟩
 have hlen' : es.length = fs.length := by omega
 refine yh (ι := Nat) (fun k => k ≤ es.length ∧ es.take k = fs.take k) (fun k => yP [(0, .c (.sl 2 (es.map Pause.enc))), (1, .c (.sl 2 (fs.map Pause.enc))), (5, .c (.i k))] []) (fun k => es.length - k) 0 (by simp) (by apply yj <;> simp [AV.yc, AV.yA, Obj.yc]) ?_
 rintro k ⟨hk, htk⟩
 rcases Nat.lt_or_ge k es.length with hlt | hge
 ·obtain ⟨e, he⟩ : ∃ e, es[k]? = some e := ⟨_, List.getElem?_eq_getElem hlt⟩
  obtain ⟨f, hf⟩ : ∃ f, fs[k]? = some f := ⟨_, List.getElem?_eq_getElem (by omega)⟩
  simp -dsimp -implicitDefEqProofs [he, hf, yI hlt, yI (hlen' ▸ hlt)]
  intro _
  refine ⟨_, _, yBw e f, by simp, .inr rfl, ?_⟩
  simp -dsimp -implicitDefEqProofs
  refine ⟨fun h => ybl he hf h, fun h => ⟨yu hlt hl1, k + 1, ⟨hlt, yaI he hf htk h⟩, by omega, by apply yj <;> simp [AV.yc, AV.yA, Obj.yc]⟩⟩
 ·simp -dsimp -implicitDefEqProofs [yah hge]
  intro _
  exact ya5 hge hlen' htk
structure Turn where
 Up : Bool
 Count : Int
 deriving DecidableEq, Inhabited
@[simp] def Turn.enc (e : Turn) : List C := [.b e.Up, .i e.Count]
-- Turn
theorem yxD (e : Turn) : yF Tryz.prog yiD [.agg (e.enc.map .c)] (.agg (e.enc.map .c)) := by
 refine yt yuF (by simp) fun hwf => ?_
 simp -dsimp -implicitDefEqProofs [ynG]
theorem yCT (a b : Turn) : yF Tryz.prog yiJ [.agg (a.enc.map .c), .agg (b.enc.map .c)] (.c (.b (decide (a = b)))) := by
 refine yt yt9 (by simp) fun hwf => ?_
 obtain ⟨a0, a1⟩ := a
 obtain ⟨b0, b1⟩ := b
 simp -dsimp -implicitDefEqProofs [ynO, Turn.mk.injEq]
 refine ⟨fun h => by simp_all, fun h0 => ?_⟩
 refine ⟨fun h => by simp_all, fun h1 => ?_⟩
 simp_all
structure CallT where
 Train : Train
 Since : Int
 Booked : Int
 deriving DecidableEq, Inhabited
@[simp] def CallT.enc (e : CallT) : List C := [.b e.Train.Up, .sl 1 (e.Train.Rows.map yV), .i e.Since, .i e.Booked]
-- Call
def ydz (e : CallT) (l : Int) : Int := ybd (ybC e.Train l) fun l => l
def CallT.small (e : CallT) : Prop := e.Train.small
theorem ytu : yeU ydz CallT.small := by
 intro e l h0 h1
 unfold ydz
 rcases yfO e.Train _ h0 h1 with e0 | ⟨a0, b0, s0⟩
 ·exact .inl (yM (by omega))
 rw [yw a0]
 exact .inr ⟨a0, by omega, s0⟩
theorem yA4 (e : CallT) (l : Int) (h0 : 0 ≤ l) (h1 : l ≤ 1048576) : yF Tryz.prog yiV [.agg (e.enc.map .c), .c (.i l)] (.c (.i (ydz e l))) := by
 refine yt ytX (by simp) fun hwf => ?_
 simp -dsimp -implicitDefEqProofs [yn9]
 refine yg (ykj e.Train _ h0 h1) (by simp) rfl ?_
 simp -dsimp -implicitDefEqProofs
 refine ⟨fun h => by simp [ydz, yM h], fun p0 => ?_⟩
 simp [ydz, yw p0]
theorem yCn (e : CallT) (hl : CallT.small e) : yF Tryz.prog yfF [.agg (e.enc.map .c)] (.agg (e.enc.map .c)) := by
 refine yt ynV (by simp) fun hwf => ?_
 simp -dsimp -implicitDefEqProofs [yiX]
 refine yJ (ynp e.Train hl) (by simp) rfl ?_
 simp -dsimp -implicitDefEqProofs
theorem yDd (a b : CallT) : yF Tryz.prog yiR [.agg (a.enc.map .c), .agg (b.enc.map .c)] (.c (.b (decide (a = b)))) := by
 refine yt yut (by simp) fun hwf => ?_
 obtain ⟨a0, a1, a2⟩ := a
 obtain ⟨b0, b1, b2⟩ := b
 simp -dsimp -implicitDefEqProofs [yn7, CallT.mk.injEq]
 refine yg (ym9 a0 b0) (by simp) rfl ?_
 simp -dsimp -implicitDefEqProofs
 refine ⟨fun h => by simp_all, fun h0 => ?_⟩
 refine ⟨fun h => by simp_all, fun h1 => ?_⟩
 refine ⟨fun h => by simp_all, fun h2 => ?_⟩
 simp_all
-- []Call
def yfX : List CallT → Int → Int := yeY ydz
def yd0 : List CallT → Prop := ycr CallT.small
theorem yyb : yeU yfX yd0 := yiu ytu
theorem yy7 (xs : List CallT) (l : Int) (h0 : 0 ≤ l) (h1 : l ≤ 1048576) : yF Tryz.prog yhT [.c (.sl 4 (xs.map CallT.enc)), .c (.i l)] (.c (.i (yfX xs l))) := by
 refine yt yrB (by simp) fun hwf => ?_
 simp -dsimp -implicitDefEqProofs [yl7]
 intro hl
 have hs : szS xs.length l = if l - xs.length < 0 then -1 else l - xs.length := rfl
 refine ⟨by unfold maxLen at hl; unfold inI; omega, fun h => ?_, fun h => ?_⟩
 ·simp [yfX, yeY, ybd, hs, h]
 have h' : 0 ≤ l - xs.length := by omega
 have e0 : yfX xs l = yan ydz xs (l - xs.length) := by
  have : szS xs.length l = l - xs.length := by rw [hs, if_neg (by omega)]
  simp only [yfX, yeY]
  rw [this, yw h']
 refine yh (ι := Nat × Int) (fun p => p.1 ≤ xs.length ∧ 0 ≤ p.2 ∧ p.2 ≤ 1048576 ∧ yan ydz (xs.drop p.1) p.2 = yfX xs l) (fun p => yP [(0, .c (.sl 4 (xs.map CallT.enc))), (1, .c (.i p.2)), (5, .c (.i p.1))] []) (fun p => xs.length - p.1) (0, l - xs.length) ⟨by simp, h', by simp only; omega, by simp [e0]⟩ (by apply yj <;> simp [AV.yc, AV.yA, Obj.yc]) ?_
 rintro ⟨k, q⟩ ⟨hk, hq0, hq1, hf⟩
 simp only at hk hq0 hq1 hf
 rcases Nat.lt_or_ge k xs.length with hlt | hge
 ·obtain ⟨e, he⟩ : ∃ e, xs[k]? = some e := ⟨_, List.getElem?_eq_getElem hlt⟩
  have hd : xs.drop k = e :: xs.drop (k + 1) := by
   rw [List.drop_eq_getElem_cons hlt, (List.getElem?_eq_some_iff.1 he).2]
  rw [hd, yan] at hf
  simp -dsimp -implicitDefEqProofs [he, yI hlt]
  refine fun _ => yg (yA4 e q hq0 hq1) (by simp) rfl ?_
  simp -dsimp -implicitDefEqProofs
  refine ⟨fun h => by rw [← hf, yM h], fun h => ⟨yu hlt hl, k + 1, ⟨ydz e q, ?_⟩⟩⟩
  rw [yw h] at hf
  have hle : ydz e q ≤ 1048576 := by
   rcases ytu e q hq0 hq1 with e1 | e1
   ·omega
   ·omega
  exact ⟨⟨hlt, h, hle, hf⟩, by omega, by apply yj <;> simp [AV.yc, AV.yA, Obj.yc]⟩
 ·simp -dsimp -implicitDefEqProofs [yah hge]
  rw [List.drop_of_length_le hge] at hf
  intro _
  first | simpa [yan] using hf | simpa [yan] using hf.symm
theorem yAt (xs : List CallT) (hl : yd0 xs) : yF Tryz.prog yeH [.c (.sl 4 (xs.map CallT.enc))] (.c (.sl 4 (xs.map CallT.enc))) := by
 refine yt ymc (by simp) fun hwf => ?_
 simp -dsimp -implicitDefEqProofs [yhI]
 intro hlen
 have hl1 := hl.1
 refine ⟨by omega, ?_⟩
 refine yh (ι := Nat) (fun k => k ≤ xs.length) (fun k => yP [(0, .c (.sl 4 (xs.map CallT.enc))), (3, .own 7 4 xs.length), (4, .c (.i k))] [(7, .row 4 (partly CallT.enc [.b false, .sl 1 [], .i 0, .i 0] xs k))]) (fun k => xs.length - k) 0 (by simp) (by apply yj <;> simp [AV.yc, AV.yA, Obj.yc, yX]) ?_
 rintro k hk
 rcases Nat.lt_or_ge k xs.length with hlt | hge
 ·obtain ⟨e, he⟩ : ∃ e, xs[k]? = some e := ⟨_, List.getElem?_eq_getElem hlt⟩
  have hs := yae (f := CallT.enc) (z := [.b false, .sl 1 [], .i 0, .i 0]) he
  have hd := yam (f := CallT.enc) (z := [.b false, .sl 1 [], .i 0, .i 0]) (n := 4) rfl hlt
  simp only [CallT.enc, Train.enc] at hs
  simp -dsimp -implicitDefEqProofs [he, yI hlt]
  refine fun _ => yJ (yCn e (hl.2 e (List.mem_of_getElem? he))) (by simp) rfl ?_
  simp -dsimp -implicitDefEqProofs [yI hlt, yaf hk, hd, hs]
  exact ⟨hlt, yu hlt hlen, k + 1, hlt, by omega, by apply yj <;> simp [AV.yc, AV.yA, Obj.yc]⟩
 ·simp -dsimp -implicitDefEqProofs [yah hge]
  intro _
  rw [yad hge, List.take_of_length_le (by simp)]
theorem ynn (es fs : List CallT) : yF Tryz.prog yci [.c (.sl 4 (es.map CallT.enc)), .c (.sl 4 (fs.map CallT.enc))] (.c (.b (decide (es = fs)))) := by
 refine yt ys9 (by simp) fun hwf => ?_
 simp -dsimp -implicitDefEqProofs [ylB]
 intro hl1 hl2
 refine ⟨fun h e => h (by rw [e]), fun hlen => ?_⟩
 have hlen' : es.length = fs.length := by omega
 refine yh (ι := Nat) (fun k => k ≤ es.length ∧ es.take k = fs.take k) (fun k => yP [(0, .c (.sl 4 (es.map CallT.enc))), (1, .c (.sl 4 (fs.map CallT.enc))), (5, .c (.i k))] []) (fun k => es.length - k) 0 (by simp) (by apply yj <;> simp [AV.yc, AV.yA, Obj.yc]) ?_
 rintro k ⟨hk, htk⟩
 rcases Nat.lt_or_ge k es.length with hlt | hge
 ·obtain ⟨e, he⟩ : ∃ e, es[k]? = some e := ⟨_, List.getElem?_eq_getElem hlt⟩
  obtain ⟨f, hf⟩ : ∃ f, fs[k]? = some f := ⟨_, List.getElem?_eq_getElem (by omega)⟩
  simp -dsimp -implicitDefEqProofs [he, hf, yI hlt, yI (hlen' ▸ hlt)]
  intro _
  refine ⟨_, _, yDd e f, by simp, .inr rfl, ?_⟩
  simp -dsimp -implicitDefEqProofs
  refine ⟨fun h => ybl he hf h, fun h => ⟨yu hlt hl1, k + 1, ⟨hlt, yaI he hf htk h⟩, by omega, by apply yj <;> simp [AV.yc, AV.yA, Obj.yc]⟩⟩
 ·simp -dsimp -implicitDefEqProofs [yah hge]
  intro _
  exact ya5 hge hlen' htk
structure Work where
 Lock : Lock
 Weir : Weir
 Rule : Rule
 Pauses : List Pause
 Turn : Turn
 Calls : List CallT
 deriving DecidableEq, Inhabited
@[simp] def Work.enc (e : Work) : List C := [.i e.Lock.Length, .i e.Lock.Width, .i e.Lock.SillAbove, .i e.Lock.SillBelow, .i e.Lock.Base, .i e.Lock.Area, .i e.Lock.Rate, .i e.Lock.Water, .i e.Lock.Gate, .sl 2 (e.Lock.Inside.map Train.enc), .i e.Weir.Gates, .i e.Weir.Open, .i e.Weir.Step, .i e.Weir.Crest, .i e.Weir.Width, .i e.Rule.Low, .i e.Rule.High, .i e.Rule.Flood, .sl 2 (e.Pauses.map Pause.enc), .b e.Turn.Up, .i e.Turn.Count, .sl 4 (e.Calls.map CallT.enc)]
-- Work
def ycN (e : Work) (l : Int) : Int := ybd (yio e.Lock l) fun l => ybd (yjN e.Pauses l) fun l => ybd (yfX e.Calls l) fun l => l
def Work.small (e : Work) : Prop := e.Lock.small ∧ ygW e.Pauses ∧ yd0 e.Calls
theorem ys8 : yeU ycN Work.small := by
 intro e l h0 h1
 unfold ycN
 rcases yrC e.Lock _ h0 h1 with e0 | ⟨a0, b0, s0⟩
 ·exact .inl (yM (by omega))
 rw [yw a0]
 rcases ypb e.Pauses _ a0 (by omega) with e1 | ⟨a1, b1, s1⟩
 ·exact .inl (yM (by omega))
 rw [yw a1]
 rcases yyb e.Calls _ a1 (by omega) with e2 | ⟨a2, b2, s2⟩
 ·exact .inl (yM (by omega))
 rw [yw a2]
 exact .inr ⟨a2, by omega, s0, s1, s2⟩
theorem yAJ (e : Work) (l : Int) (h0 : 0 ≤ l) (h1 : l ≤ 1048576) : yF Tryz.prog yiQ [.agg (e.enc.map .c), .c (.i l)] (.c (.i (ycN e l))) := by
 refine yt yuN (by simp) fun hwf => ?_
 simp -dsimp -implicitDefEqProofs [ynS]
 refine yg (yAn e.Lock _ h0 h1) (by simp) rfl ?_
 simp -dsimp -implicitDefEqProofs
 refine ⟨fun h => by simp [ycN, yM h], fun p0 => ?_⟩
 have q0 := yll yrC e.Lock h0 h1 p0
 refine yg (yw0 e.Pauses _ p0 q0) (by simp) rfl ?_
 simp -dsimp -implicitDefEqProofs
 refine ⟨fun h => by simp [ycN, yw p0, yM h], fun p1 => ?_⟩
 have q1 := yll ypb e.Pauses p0 q0 p1
 refine yg (yy7 e.Calls _ p1 q1) (by simp) rfl ?_
 simp -dsimp -implicitDefEqProofs
 refine ⟨fun h => by simp [ycN, yw p0, yw p1, yM h], fun p2 => ?_⟩
 simp [ycN, yw p0, yw p1, yw p2]
theorem yDl (e : Work) (hl : Work.small e) : yF Tryz.prog yfK [.agg (e.enc.map .c)] (.agg (e.enc.map .c)) := by
 refine yt ynz (by simp) fun hwf => ?_
 simp -dsimp -implicitDefEqProofs [yiU]
 refine yJ (yCc e.Lock (hl.1)) (by simp) rfl ?_
 simp -dsimp -implicitDefEqProofs
 refine yJ (yxf e.Weir) (by simp) rfl ?_
 simp -dsimp -implicitDefEqProofs
 refine yJ (yxR e.Rule) (by simp) rfl ?_
 simp -dsimp -implicitDefEqProofs
 refine yJ (yyX e.Pauses (hl.2.1)) (by simp) rfl ?_
 simp -dsimp -implicitDefEqProofs
 refine yJ (yxD e.Turn) (by simp) rfl ?_
 simp -dsimp -implicitDefEqProofs
 refine yJ (yAt e.Calls (hl.2.2)) (by simp) rfl ?_
 simp -dsimp -implicitDefEqProofs
theorem yC4 (a b : Work) : yF Tryz.prog yiO [.agg (a.enc.map .c), .agg (b.enc.map .c)] (.c (.b (decide (a = b)))) := by
 refine yt ytW (by simp) fun hwf => ?_
 obtain ⟨a0, a1, a2, a3, a4, a5⟩ := a
 obtain ⟨b0, b1, b2, b3, b4, b5⟩ := b
 simp -dsimp -implicitDefEqProofs [yn6, Work.mk.injEq]
 refine yg (yC9 a0 b0) (by simp) rfl ?_
 simp -dsimp -implicitDefEqProofs
 refine ⟨fun h => by simp_all, fun h0 => ?_⟩
 refine yg (yCN a1 b1) (by simp) rfl ?_
 simp -dsimp -implicitDefEqProofs
 refine ⟨fun h => by simp_all, fun h1 => ?_⟩
 refine yg (yC8 a2 b2) (by simp) rfl ?_
 simp -dsimp -implicitDefEqProofs
 refine ⟨fun h => by simp_all, fun h2 => ?_⟩
 refine yg (yy1 a3 b3) (by simp) rfl ?_
 simp -dsimp -implicitDefEqProofs
 refine ⟨fun h => by simp_all, fun h3 => ?_⟩
 refine yg (yCT a4 b4) (by simp) rfl ?_
 simp -dsimp -implicitDefEqProofs
 refine ⟨fun h => by simp_all, fun h4 => ?_⟩
 refine yg (ynn a5 b5) (by simp) rfl ?_
 simp -dsimp -implicitDefEqProofs
 refine ⟨fun h => by simp_all, fun h5 => ?_⟩
 simp_all
def ycF (w : Weir) : Bool := inRange w.Gates 1 8 && inRange w.Open 0 (10 * w.Gates) && inRange w.Step 1 80 && inRange w.Crest 0 100000 && inRange w.Width 1 1000
theorem yxz (w : Weir) : yF Tryz.prog yiP [.agg (w.enc.map .c)] (.c (.b (ycF w))) := by
 refine yt yuk (by simp) fun hwf => ?_
 simp -dsimp -implicitDefEqProofs [yoi]
 refine yg (yE w.Gates 1 8) (by simp) rfl ?_
 cases h0 : inRange w.Gates 1 8 with
 | false => simp -dsimp -implicitDefEqProofs; simp [ycF, h0]
 | true =>
 simp -dsimp -implicitDefEqProofs
 refine ⟨by have := yR.1 h0; unfold inI; omega, ?_⟩
 refine yg (yE w.Open 0 (10 * w.Gates)) (by simp) rfl ?_
 cases h1 : inRange w.Open 0 (10 * w.Gates) with
 | false => simp -dsimp -implicitDefEqProofs; simp [ycF, h0, h1]
 | true =>
 simp -dsimp -implicitDefEqProofs
 refine yg (yE w.Step 1 80) (by simp) rfl ?_
 cases h2 : inRange w.Step 1 80 with
 | false => simp -dsimp -implicitDefEqProofs; simp [ycF, h0, h1, h2]
 | true =>
 simp -dsimp -implicitDefEqProofs
 refine yg (yE w.Crest 0 100000) (by simp) rfl ?_
 cases h3 : inRange w.Crest 0 100000 with
 | false => simp -dsimp -implicitDefEqProofs; simp [ycF, h0, h1, h2, h3]
 | true =>
 simp -dsimp -implicitDefEqProofs
 refine yg (yE w.Width 1 1000) (by simp) rfl ?_
 cases h4 : inRange w.Width 1 1000 with
 | false => simp -dsimp -implicitDefEqProofs; simp [ycF, h0, h1, h2, h3, h4]
 | true =>
  simp -dsimp -implicitDefEqProofs; simp [ycF, h0, h1, h2, h3, h4]
theorem yyd (w : Weir) : yF Tryz.prog yiS [.agg (w.enc.map .c)] (.c (.b (ycF w))) := by
 refine yt yt2 (by simp) fun hwf => ?_
 simp -dsimp -implicitDefEqProofs [yn0]
 refine yg (yC w.Gates 1 8) (by simp) rfl ?_
 cases h0 : inRange w.Gates 1 8 with
 | false => simp -dsimp -implicitDefEqProofs; simp [ycF, h0]
 | true =>
 simp -dsimp -implicitDefEqProofs
 refine ⟨by have := yR.1 h0; unfold inI; omega, ?_⟩
 refine yg (yC w.Open 0 (10 * w.Gates)) (by simp) rfl ?_
 cases h1 : inRange w.Open 0 (10 * w.Gates) with
 | false => simp -dsimp -implicitDefEqProofs; simp [ycF, h0, h1]
 | true =>
 simp -dsimp -implicitDefEqProofs
 refine yg (yC w.Step 1 80) (by simp) rfl ?_
 cases h2 : inRange w.Step 1 80 with
 | false => simp -dsimp -implicitDefEqProofs; simp [ycF, h0, h1, h2]
 | true =>
 simp -dsimp -implicitDefEqProofs
 refine yg (yC w.Crest 0 100000) (by simp) rfl ?_
 cases h3 : inRange w.Crest 0 100000 with
 | false => simp -dsimp -implicitDefEqProofs; simp [ycF, h0, h1, h2, h3]
 | true =>
 simp -dsimp -implicitDefEqProofs
 refine yg (yC w.Width 1 1000) (by simp) rfl ?_
 cases h4 : inRange w.Width 1 1000 with
 | false => simp -dsimp -implicitDefEqProofs; simp [ycF, h0, h1, h2, h3, h4]
 | true =>
  simp -dsimp -implicitDefEqProofs; simp [ycF, h0, h1, h2, h3, h4]
def yeL (r : Rule) : Bool := inRange r.Low 0 100000 && inRange r.High 0 100000 && inRange r.Flood 0 100000 && decide (r.Low < r.High) && decide (r.High ≤ r.Flood)
theorem yxv (r : Rule) : yF Tryz.prog yi5 [.agg (r.enc.map .c)] (.c (.b (yeL r))) := by
 refine yt yt6 (by simp) fun hwf => ?_
 simp -dsimp -implicitDefEqProofs [yn1]
 refine yg (yE r.Low 0 100000) (by simp) rfl ?_
 cases h0 : inRange r.Low 0 100000 with
 | false => simp -dsimp -implicitDefEqProofs; simp [yeL, h0]
 | true =>
 simp -dsimp -implicitDefEqProofs
 refine yg (yE r.High 0 100000) (by simp) rfl ?_
 cases h1 : inRange r.High 0 100000 with
 | false => simp -dsimp -implicitDefEqProofs; simp [yeL, h0, h1]
 | true =>
 simp -dsimp -implicitDefEqProofs
 refine yg (yE r.Flood 0 100000) (by simp) rfl ?_
 cases h2 : inRange r.Flood 0 100000 with
 | false => simp -dsimp -implicitDefEqProofs; simp [yeL, h0, h1, h2]
 | true =>
 simp -dsimp -implicitDefEqProofs
 simp [yeL, h0, h1, h2]
 exact ⟨fun h _ => h, fun a b => by omega⟩
theorem yxh (r : Rule) : yF Tryz.prog yi8 [.agg (r.enc.map .c)] (.c (.b (yeL r))) := by
 refine yt ytT (by simp) fun hwf => ?_
 simp -dsimp -implicitDefEqProofs [ynU]
 refine yg (ydJ r.Low) (by simp) rfl ?_
 cases h0 : inRange r.Low 0 100000 with
 | false => simp -dsimp -implicitDefEqProofs; simp [yeL, h0]
 | true =>
 simp -dsimp -implicitDefEqProofs
 refine yg (ydJ r.High) (by simp) rfl ?_
 cases h1 : inRange r.High 0 100000 with
 | false => simp -dsimp -implicitDefEqProofs; simp [yeL, h0, h1]
 | true =>
 simp -dsimp -implicitDefEqProofs
 refine yg (ydJ r.Flood) (by simp) rfl ?_
 cases h2 : inRange r.Flood 0 100000 with
 | false => simp -dsimp -implicitDefEqProofs; simp [yeL, h0, h1, h2]
 | true =>
 simp -dsimp -implicitDefEqProofs
 simp [yeL, h0, h1, h2]
 exact ⟨fun h _ => h, fun a b => by omega⟩
def ytP (t : Turn) : Bool := inRange t.Count 0 1000000
theorem yya (t : Turn) : yF Tryz.prog yiy [.agg (t.enc.map .c)] (.c (.b (ytP t))) := by
 refine yt yuI (by simp) fun hwf => ?_
 simp -dsimp -implicitDefEqProofs [yob]
 refine yg (yE t.Count 0 1000000) (by simp) rfl ?_
 simp -dsimp -implicitDefEqProofs
 try rfl
theorem yyu (t : Turn) : yF Tryz.prog yiM [.agg (t.enc.map .c)] (.c (.b (ytP t))) := by
 refine yt yuu (by simp) fun hwf => ?_
 simp -dsimp -implicitDefEqProofs [ynW]
 refine yg (yC t.Count 0 1000000) (by simp) rfl ?_
 simp -dsimp -implicitDefEqProofs
 try rfl
def ybI (c : CallT) : Bool := yH c.Train && inRange c.Since 0 1000000 && inRange c.Booked (-1) 1000000
theorem yxB (c : CallT) (h : c.small) : yF Tryz.prog yi2 [.agg (c.enc.map .c)] (.c (.b (ybI c))) := by
 refine yt yuL (by simp) fun hwf => ?_
 simp -dsimp -implicitDefEqProofs [ynP]
 refine yg (ybu c.Train h) (by simp) rfl ?_
 cases h0 : yH c.Train with
 | false => simp -dsimp -implicitDefEqProofs; simp [ybI, h0]
 | true =>
 simp -dsimp -implicitDefEqProofs
 refine yg (yE c.Since 0 1000000) (by simp) rfl ?_
 cases h1 : inRange c.Since 0 1000000 with
 | false => simp -dsimp -implicitDefEqProofs; simp [ybI, h0, h1]
 | true =>
 simp -dsimp -implicitDefEqProofs
 refine yg (yE c.Booked (-1) 1000000) (by simp) rfl ?_
 cases h2 : inRange c.Booked (-1) 1000000 with
 | false => simp -dsimp -implicitDefEqProofs; simp [ybI, h0, h1, h2]
 | true =>
  simp -dsimp -implicitDefEqProofs; simp [ybI, h0, h1, h2]
theorem yyw (c : CallT) (h : c.small) : yF Tryz.prog yiz [.agg (c.enc.map .c)] (.c (.b (ybI c))) := by
 refine yt yuq (by simp) fun hwf => ?_
 simp -dsimp -implicitDefEqProofs [ynD]
 refine yg (ybg c.Train h) (by simp) rfl ?_
 cases h0 : yH c.Train with
 | false => simp -dsimp -implicitDefEqProofs; simp [ybI, h0]
 | true =>
 simp -dsimp -implicitDefEqProofs
 refine yg (yC c.Since 0 1000000) (by simp) rfl ?_
 cases h1 : inRange c.Since 0 1000000 with
 | false => simp -dsimp -implicitDefEqProofs; simp [ybI, h0, h1]
 | true =>
 simp -dsimp -implicitDefEqProofs
 refine yg (yC c.Booked (-1) 1000000) (by simp) rfl ?_
 cases h2 : inRange c.Booked (-1) 1000000 with
 | false => simp -dsimp -implicitDefEqProofs; simp [ybI, h0, h1, h2]
 | true =>
  simp -dsimp -implicitDefEqProofs; simp [ybI, h0, h1, h2]
def ycH (b : Int) (p : Pause) : Bool := !decide (p.From < b) && !decide (p.Until ≤ p.From) && !decide (1000000 < p.Until)
def yb2 : Int → List Pause → Bool
 | _, [] => true
 | b, p :: l => ycH b p && yb2 p.Until l
def ycj (l : List Pause) : Bool := decide (l.length ≤ 8) && yb2 0 l
theorem yqM {l : List Pause} {k : Nat} {p : Pause} {b : Int} (h : l[k]? = some p) : yb2 b (l.drop k) = (ycH b p && yb2 p.Until (l.drop (k + 1))) := by
 have hlt := (List.getElem?_eq_some_iff.1 h).1
 rw [List.drop_eq_getElem_cons hlt, (List.getElem?_eq_some_iff.1 h).2]; rfl
theorem yt3 (l : List Pause) : yF Tryz.prog ygr [.c (.sl 2 (l.map Pause.enc))] (.c (.b (ycj l))) := by
 refine yt yq6 (by simp) fun hwf => ?_
 simp -dsimp -implicitDefEqProofs [ylb]
 intro hlen
 refine ⟨fun h8 => (by simp [ycj]; omega), fun h8 => ?_⟩
 refine fun _ => yh (ι := Nat × Int) (fun q => q.1 ≤ l.length ∧ yb2 q.2 (l.drop q.1) = yb2 0 l) (fun q => yP [(3, .c (.i q.2)), (9, .c (.sl 2 (l.map Pause.enc))), (10, .c (.i l.length)), (11, .c (.i q.1))] []) (fun q => l.length - q.1) (0, 0) (by simp) (by apply yj <;> simp [AV.yc, AV.yA, Obj.yc]) ?_
 rintro ⟨k, b⟩ ⟨hk, hf⟩
 simp only at hk hf
 rcases Nat.lt_or_ge k l.length with hlt | hge
 ·obtain ⟨p, hp⟩ : ∃ p, l[k]? = some p := ⟨_, List.getElem?_eq_getElem hlt⟩
  rw [yqM hp] at hf
  have bad : ycH b p = false → ycj l = false := fun e => by rw [e, Bool.false_and] at hf; simp [ycj, ← hf]
  simp -dsimp -implicitDefEqProofs [hp, yI hlt]
  refine ⟨fun h1 => ?_, fun h1 => (bad (by simp [ycH]; omega))⟩
  refine ⟨fun h2 => ?_, fun h2 => (bad (by simp [ycH]; omega))⟩
  refine ⟨fun h3 => (bad (by simp [ycH]; omega)), fun h3 => ?_⟩
  have hok : ycH b p = true := by simp [ycH]; omega
  rw [hok, Bool.true_and] at hf
  exact ⟨yu hlt hlen, k + 1, p.Until, ⟨hlt, hf⟩, by omega, by apply yj <;> simp [AV.yc, AV.yA, Obj.yc]⟩
 ·simp -dsimp -implicitDefEqProofs [yah hge]
  rw [List.drop_of_length_le hge] at hf
  have h8' : l.length ≤ 8 := by omega
  simp [ycj, h8', ← hf, yb2]
theorem yuK (l : List Pause) : yF Tryz.prog ygn [.c (.sl 2 (l.map Pause.enc))] (.c (.b (ycj l))) := by
 refine yt yq0 (by simp) fun hwf => ?_
 simp -dsimp -implicitDefEqProofs [ylk]
 refine yh (ι := Nat × Int) (fun q => q.1 ≤ l.length ∧ yb2 q.2 (l.drop q.1) = yb2 0 l) (fun q => yP [(0, .c (.sl 2 (l.map Pause.enc))), (3, .c (.i q.2)), (4, .c (.i q.1))] []) (fun q => l.length - q.1) (0, 0) (by simp) (by apply yj <;> simp [AV.yc, AV.yA, Obj.yc]) ?_
 rintro ⟨k, b⟩ ⟨hk, hf⟩
 simp only at hk hf
 rcases Nat.lt_or_ge k l.length with hlt | hge
 ·obtain ⟨p, hp⟩ : ∃ p, l[k]? = some p := ⟨_, List.getElem?_eq_getElem hlt⟩
  rw [yqM hp] at hf
  have bad : ycH b p = false → ycj l = false := fun e => by rw [e, Bool.false_and] at hf; simp [ycj, ← hf]
  simp -dsimp -implicitDefEqProofs [hp, yI hlt]
  intro hlen
  refine ⟨fun h1 => ?_, fun h1 => (bad (by simp [ycH]; omega))⟩
  refine ⟨fun h2 => ?_, fun h2 => (bad (by simp [ycH]; omega))⟩
  refine ⟨fun h3 => (bad (by simp [ycH]; omega)), fun h3 => ?_⟩
  have hok : ycH b p = true := by simp [ycH]; omega
  rw [hok, Bool.true_and] at hf
  exact ⟨yu hlt hlen, k + 1, p.Until, ⟨hlt, hf⟩, by omega, by apply yj <;> simp [AV.yc, AV.yA, Obj.yc]⟩
 ·simp -dsimp -implicitDefEqProofs [yah hge]
  rw [List.drop_of_length_le hge] at hf
  simp [ycj, ← hf, yb2]
  try omega
def yaC (l : List Train) (k : Nat) : List Int := (l.take k).flatMap yaM
def seenAt (l : List Train) (k : Nat) (t : Train) (j : Nat) : List Int := yaC l k ++ (yaM t).take j
def Distinct (l : List Train) : Bool := decide (l.length ≤ 8) && l.all yH && decide ((l.flatMap yaM).Nodup)
theorem ygV {l : List Train} : yaC l 0 = [] := rfl
theorem yg0 {l : List Train} {k : Nat} {t : Train} (h : l[k]? = some t) : yaC l (k + 1) = yaC l k ++ yaM t := by
 unfold yaC; rw [List.take_succ, h, List.flatMap_append]; simp
theorem yqy {l : List Train} {k : Nat} (h : l.length ≤ k) : yaC l k = l.flatMap yaM := by
 unfold yaC; rw [List.take_of_length_le h]
theorem yuc {l : List Train} {k : Nat} {t : Train} (h : l[k]? = some t) : ∃ m, l.flatMap yaM = yaC l k ++ yaM t ++ m := by
 refine ⟨(l.drop (k + 1)).flatMap yaM, ?_⟩
 rw [← yg0 h]
 unfold yaC
 rw [← List.flatMap_append, List.take_append_drop]
theorem yqN {l : List Train} {k : Nat} {t : Train} : seenAt l k t 0 = yaC l k := by simp [seenAt]
theorem yqC {l : List Train} {k j : Nat} {t : Train} {x : Int} (h : (yaM t)[j]? = some x) : seenAt l k t (j + 1) = seenAt l k t j ++ [x] := by
 unfold seenAt; rw [List.take_succ, h]; simp
theorem ys1 {l : List Train} {k j : Nat} {t : Train} (ht : l[k]? = some t) (h : (yaM t).length ≤ j) : seenAt l k t j = yaC l (k + 1) := by
 unfold seenAt; rw [List.take_of_length_le h, yg0 ht]
theorem yqu {l : List Train} (k : Nat) (h : ∀ t ∈ l.take k, yH t = true) : (yaC l k).length ≤ 6 * k := by
 have key : ∀ (m : List Train), (∀ t ∈ m, yH t = true) → (m.flatMap yaM).length ≤ 6 * m.length := by
  intro m
  induction m with
  | nil => simp
  | cons t m ih =>
   intro hm
   have h1 := ywN (hm t (by simp))
   have h2 := ih fun x hx => hm x (by simp [hx])
   simp only [List.flatMap_cons, List.length_append, List.length_cons]; omega
 have := key (l.take k) h
 have h2 : (l.take k).length ≤ k := by rw [List.length_take]; omega
 unfold yaC; omega
theorem twice {l : List Train} {k j : Nat} {t : Train} {x : Int} (ht : l[k]? = some t) (hx : (yaM t)[j]? = some x) (hm : x ∈ seenAt l k t j) : Distinct l = false := by
 have : ¬ (l.flatMap yaM).Nodup := by
  intro hn
  obtain ⟨m, e⟩ := yuc ht
  have hlt := (List.getElem?_eq_some_iff.1 hx).1
  have e2 : yaM t = (yaM t).take j ++ x :: (yaM t).drop (j + 1) := by
   conv => lhs; rw [← List.take_append_drop j (yaM t)]
   rw [List.drop_eq_getElem_cons hlt, (List.getElem?_eq_some_iff.1 hx).2]
  have e3 : l.flatMap yaM = seenAt l k t j ++ x :: ((yaM t).drop (j + 1) ++ m) := by
   rw [e]; unfold seenAt; conv => lhs; rw [e2]
   simp
  rw [e3] at hn
  exact (List.nodup_append.1 hn).2.2 x hm x (by simp) rfl
 simp [Distinct, this]
theorem yqj {l : List Train} {k : Nat} {t : Train} (ht : l[k]? = some t) (h : yH t = false) : Distinct l = false := by
 have : l.all yH = false := all_false (p := yH) ht h
 simp only [Distinct, this, Bool.and_false, Bool.false_and]
theorem yjG (l : List Train) (hs : ya9 l) : yF Tryz.prog ybG [.c (.sl 2 (l.map Train.enc))] (.c (.b (Distinct l))) := by
 refine yt ylA (by simp) fun hwf => ?_
 simp -dsimp -implicitDefEqProofs [ye3]
 intro hlen
 refine ⟨fun h8 => (by simp [Distinct]; omega), fun h8 => ?_⟩
 intro _
 refine ym3 (k0 := 1) 3 1 (by simp) (by simp) (by decide) ?_
 refine yh (ι := Nat) (fun k => k ≤ l.length ∧ (∀ t ∈ l.take k, yH t = true) ∧ (yaC l k).Nodup) (fun k => yP [(3, .own 3 1 (yaC l k).length), (11, .c (.sl 2 (l.map Train.enc))), (12, .c (.i l.length)), (13, .c (.i k))] [(3, .row 1 ((yaC l k).map yac))]) (fun k => l.length - k) 0 (by simp [ygV]) (by apply yj <;> simp [AV.yc, AV.yA, Obj.yc, ygV]) ?_
 rintro k ⟨hk, hall, hnd⟩
 rcases Nat.lt_or_ge k l.length with hlt | hge
 ·obtain ⟨t, ht⟩ : ∃ t, l[k]? = some t := ⟨_, List.getElem?_eq_getElem hlt⟩
  have hts := hs.2 t (List.mem_of_getElem? ht)
  simp -dsimp -implicitDefEqProofs [ht, yI hlt]
  refine yg (ybu t hts) (by simp) rfl ?_
  cases h1 : yH t with
  | false => simp -dsimp -implicitDefEqProofs; exact yqj ht h1
  | true =>
   have hall' := yL (p := yH) ht hall h1
   have hil := ywN h1
   have hul := yqu k hall
   simp -dsimp -implicitDefEqProofs
   refine yJ (yxn t hts) (by simp) rfl ?_
   simp -dsimp -implicitDefEqProofs
   intro _
   refine yh (ι := Nat) (fun j => j ≤ (yaM t).length ∧ (seenAt l k t j).Nodup) (fun j => yP [(3, .own 3 1 (seenAt l k t j).length), (11, .c (.sl 2 (l.map Train.enc))), (12, .c (.i l.length)), (13, .c (.i k)), (21, .c (.sl 1 ((yaM t).map yac))), (22, .c (.i (yaM t).length)), (23, .c (.i j))] [(3, .row 1 ((seenAt l k t j).map yac))]) (fun j => (yaM t).length - j) 0 ⟨by simp, by rw [yqN]; exact hnd⟩ (by apply yj <;> simp [AV.yc, AV.yA, Obj.yc, yqN]) ?_
   rintro j ⟨hj, hnj⟩
   have hsl : (seenAt l k t j).length ≤ 60 := by unfold seenAt; rw [List.length_append, List.length_take]; omega
   rcases Nat.lt_or_ge j (yaM t).length with hlt2 | hge2
   ·obtain ⟨x, hx⟩ : ∃ x, (yaM t)[j]? = some x := ⟨_, List.getElem?_eq_getElem hlt2⟩
    simp -dsimp -implicitDefEqProofs [hx, yI hlt2]
    refine yg (ytn (seenAt l k t j) x) (by simp [ypQ]) rfl ?_
    simp -dsimp -implicitDefEqProofs
    refine ⟨fun h2 => (twice ht hx h2), fun h2 => ?_⟩
    have hn2 : (seenAt l k t (j + 1)).Nodup := by
     rw [yqC hx]
     exact List.nodup_append.2 ⟨hnj, by simp, fun a ha b hb e => by simp at hb; subst hb; subst e; exact h2 ha⟩
    refine ⟨by omega, by unfold inI; omega, j + 1, ⟨hlt2, hn2⟩, by omega, ?_⟩
    apply yj <;> simp [AV.yc, AV.yA, Obj.yc, yqC hx]
   ·simp -dsimp -implicitDefEqProofs [yah hge2]
    rw [ys1 ht hge2] at hnj
    refine ⟨by unfold inI; omega, k + 1, ⟨hlt, hall', hnj⟩, by omega, ?_⟩
    apply yj <;> simp [AV.yc, AV.yA, Obj.yc, ys1 ht hge2]
 ·simp -dsimp -implicitDefEqProofs [yah hge]
  rw [yqy hge] at hnd
  have h1 := yQ (p := yH) hge hall
  have h8' : l.length ≤ 8 := by omega
  simp [Distinct, h1, hnd, h8']
theorem ymO (l : List Train) (hs : ya9 l) (h8 : l.length ≤ 8) (hok : ∀ t ∈ l, yH t = true) : yF Tryz.prog yb6 [.c (.sl 2 (l.map Train.enc))] (.c (.b (decide ((l.flatMap yaM).Nodup)))) := by
 refine yt yns (by simp) fun hwf => ?_
 have fin : Distinct l = false → decide ((l.flatMap yaM).Nodup) = false := by
  intro h
  have h1 : l.all yH = true := List.all_eq_true.2 hok
  simpa [Distinct, h1, h8] using h
 simp -dsimp -implicitDefEqProofs [ygO]
 refine yh (ι := Nat) (fun k => k ≤ l.length ∧ (yaC l k).Nodup) (fun k => yP [(0, .c (.sl 2 (l.map Train.enc))), (3, .own 8 1 (yaC l k).length), (4, .c (.i k))] [(8, .row 1 ((yaC l k).map yac))]) (fun k => l.length - k) 0 (by simp [ygV]) (by apply yj <;> simp [AV.yc, AV.yA, Obj.yc, ygV]) ?_
 rintro k ⟨hk, hnd⟩
 rcases Nat.lt_or_ge k l.length with hlt | hge
 ·obtain ⟨t, ht⟩ : ∃ t, l[k]? = some t := ⟨_, List.getElem?_eq_getElem hlt⟩
  have hts := hs.2 t (List.mem_of_getElem? ht)
  have h1 := hok t (List.mem_of_getElem? ht)
  have hil := ywN h1
  have hul := yqu (l := l) k (fun t ht => hok t (List.mem_of_mem_take ht))
  simp -dsimp -implicitDefEqProofs [ht, yI hlt]
  intro hlen
  refine yJ (yzs t hts) (by simp) rfl ?_
  simp -dsimp -implicitDefEqProofs
  refine yh (ι := Nat) (fun i => i ≤ (yaM t).length ∧ ∀ x ∈ (yaM t).take i, x ∉ yaC l k) (fun i => yP [(0, .c (.sl 2 (l.map Train.enc))), (3, .own 8 1 (yaC l k).length), (4, .c (.i k)), (5, .c (.sl 1 ((yaM t).map yac))), (6, .c (.i i))] [(8, .row 1 ((yaC l k).map yac))]) (fun i => (yaM t).length - i) 0 (by simp) (by apply yj <;> simp [AV.yc, AV.yA, Obj.yc]) ?_
  rintro i ⟨hi, hni⟩
  rcases Nat.lt_or_ge i (yaM t).length with hlt2 | hge2
  ·obtain ⟨x, hx⟩ : ∃ x, (yaM t)[i]? = some x := ⟨_, List.getElem?_eq_getElem hlt2⟩
   simp -dsimp -implicitDefEqProofs [yI hlt2]
   intro _
   refine yh (ι := Nat) (fun j => j ≤ (yaC l k).length ∧ ∀ y ∈ (yaC l k).take j, y ≠ x) (fun j => yP [(0, .c (.sl 2 (l.map Train.enc))), (3, .own 8 1 (yaC l k).length), (4, .c (.i k)), (5, .c (.sl 1 ((yaM t).map yac))), (6, .c (.i i)), (7, .c (.i j))] [(8, .row 1 ((yaC l k).map yac))]) (fun j => (yaC l k).length - j) 0 (by simp) (by apply yj <;> simp [AV.yc, AV.yA, Obj.yc]) ?_
   rintro j ⟨hj, hnj⟩
   rcases Nat.lt_or_ge j (yaC l k).length with hlt3 | hge3
   ·obtain ⟨y, hy⟩ : ∃ y, (yaC l k)[j]? = some y := ⟨_, List.getElem?_eq_getElem hlt3⟩
    have bad : y = x → ¬ (l.flatMap yaM).Nodup := fun e => by
     have := fin (twice ht hx (by unfold seenAt; rw [← e]; exact List.mem_append_left _ (List.mem_of_getElem? hy)))
     simpa using this
    generalize yaC l k = u at *
    have g1 := (List.getElem?_eq_some_iff.1 hy).2
    simp -dsimp -implicitDefEqProofs [hx, yI hlt2, hy, g1, yI hlt3, hlt3]
    intro _
    refine ⟨fun h2 => (bad h2), fun h2 => ?_⟩
    refine ⟨by unfold inI; omega, j + 1, ⟨hlt3, ?_⟩, by omega, ?_⟩
    ·rw [List.take_succ, hy]
     intro z hz
     rcases List.mem_append.1 hz with hz | hz
     ·exact hnj z hz
     ·simp at hz; subst hz; exact h2
    ·apply yj <;> simp [AV.yc, AV.yA, Obj.yc]
   ·rw [List.take_of_length_le hge3] at hnj
    simp -dsimp -implicitDefEqProofs [yah hge3]
    intro _
    refine ⟨by unfold inI; omega, i + 1, ⟨hlt2, ?_⟩, by omega, by apply yj <;> simp [AV.yc, AV.yA, Obj.yc]⟩
    rw [List.take_succ, hx]
    intro z hz
    rcases List.mem_append.1 hz with hz | hz
    ·exact hni z hz
    ·simp at hz; subst hz; exact fun hm => hnj _ hm rfl
  ·rw [List.take_of_length_le hge2] at hni
   simp -dsimp -implicitDefEqProofs [yah hge2]
   have hnd2 : (yaC l (k + 1)).Nodup := by
    rw [yg0 ht]
    exact List.nodup_append.2 ⟨hnd, yG5 h1, fun a ha b hb e => hni b hb (e ▸ ha)⟩
   refine fun _ => ⟨by omega, by unfold inI; omega, k + 1, ⟨hlt, hnd2⟩, by omega, ?_⟩
   apply yj <;> simp [AV.yc, AV.yA, Obj.yc, yg0 ht]
 ·simp -dsimp -implicitDefEqProofs [yah hge]
  rw [yqy hge] at hnd
  simp [hnd]
theorem yxr (l : List Train) (hs : ya9 l) : yF Tryz.prog yfy [.c (.sl 2 (l.map Train.enc))] (.c (.b (Distinct l))) := by
 refine yt ypY (by simp) fun hwf => ?_
 simp -dsimp -implicitDefEqProofs [yjJ]
 refine yh (ι := Nat) (fun k => k ≤ l.length ∧ (∀ t ∈ l.take k, yH t = true) ∧ (k ≠ 0 → l.length ≤ 8)) (fun k => yP [(0, .c (.sl 2 (l.map Train.enc))), (3, .c (.i k))] []) (fun k => l.length - k) 0 (by simp) (by apply yj <;> simp [AV.yc, AV.yA, Obj.yc]) ?_
 rintro k ⟨hk, hall, h8⟩
 rcases Nat.lt_or_ge k l.length with hlt | hge
 ·obtain ⟨t, ht⟩ : ∃ t, l[k]? = some t := ⟨_, List.getElem?_eq_getElem hlt⟩
  have hts := hs.2 t (List.mem_of_getElem? ht)
  simp -dsimp -implicitDefEqProofs [ht, yI hlt]
  intro hlen
  refine yg (ybg t hts) (by simp) rfl ?_
  cases h1 : yH t with
  | false => simp -dsimp -implicitDefEqProofs; exact yqj ht h1
  | true =>
   have hall' := yL (p := yH) ht hall h1
   simp -dsimp -implicitDefEqProofs
   intro _
   refine ⟨fun h9 => (by simp [Distinct]; omega), fun h9 => ?_⟩
   have h9' : l.length ≤ 8 := by omega
   exact ⟨yu hlt hlen, k + 1, ⟨hlt, hall', fun _ => h9'⟩, by omega, by apply yj <;> simp [AV.yc, AV.yA, Obj.yc]⟩
 ·have h1 := yQ (p := yH) hge hall
  have h8' : l.length ≤ 8 := by
   rcases Nat.eq_zero_or_pos k with e | e
   ·omega
   ·exact h8 (by omega)
  simp -dsimp -implicitDefEqProofs [yah hge]
  intro _
  refine yg (ymO l hs h8' (List.all_eq_true.1 h1)) (by simp) rfl ?_
  simp -dsimp -implicitDefEqProofs
  simp [Distinct, h1, h8']
def ya4 (k : Lock) : Bool := inRange k.Length 1 1000 && inRange k.Width 1 100 && inRange k.SillAbove 0 100000 && inRange k.SillBelow 0 100000 && inRange k.Base 0 100000 && inRange k.Area 1 10000 && inRange k.Rate 1 100000 && inRange k.Water 0 1000000000 && inRange k.Gate 0 2 && Distinct k.Inside
theorem yxO (k : Lock) (h : k.small) : yF Tryz.prog yiG [.agg (k.enc.map .c)] (.c (.b (ya4 k))) := by
 refine yt yud (by simp) fun hwf => ?_
 simp -dsimp -implicitDefEqProofs [ynH]
 refine yg (yE k.Length 1 1000) (by simp) rfl ?_
 cases h0 : inRange k.Length 1 1000 with
 | false => simp -dsimp -implicitDefEqProofs; simp [ya4, h0]
 | true =>
 simp -dsimp -implicitDefEqProofs
 refine yg (yE k.Width 1 100) (by simp) rfl ?_
 cases h1 : inRange k.Width 1 100 with
 | false => simp -dsimp -implicitDefEqProofs; simp [ya4, h0, h1]
 | true =>
 simp -dsimp -implicitDefEqProofs
 refine yg (yE k.SillAbove 0 100000) (by simp) rfl ?_
 cases h2 : inRange k.SillAbove 0 100000 with
 | false => simp -dsimp -implicitDefEqProofs; simp [ya4, h0, h1, h2]
 | true =>
 simp -dsimp -implicitDefEqProofs
 refine yg (yE k.SillBelow 0 100000) (by simp) rfl ?_
 cases h3 : inRange k.SillBelow 0 100000 with
 | false => simp -dsimp -implicitDefEqProofs; simp [ya4, h0, h1, h2, h3]
 | true =>
 simp -dsimp -implicitDefEqProofs
 refine yg (yE k.Base 0 100000) (by simp) rfl ?_
 cases h4 : inRange k.Base 0 100000 with
 | false => simp -dsimp -implicitDefEqProofs; simp [ya4, h0, h1, h2, h3, h4]
 | true =>
 simp -dsimp -implicitDefEqProofs
 refine yg (yE k.Area 1 10000) (by simp) rfl ?_
 cases h5 : inRange k.Area 1 10000 with
 | false => simp -dsimp -implicitDefEqProofs; simp [ya4, h0, h1, h2, h3, h4, h5]
 | true =>
 simp -dsimp -implicitDefEqProofs
 refine yg (yE k.Rate 1 100000) (by simp) rfl ?_
 cases h6 : inRange k.Rate 1 100000 with
 | false => simp -dsimp -implicitDefEqProofs; simp [ya4, h0, h1, h2, h3, h4, h5, h6]
 | true =>
 simp -dsimp -implicitDefEqProofs
 refine yg (yE k.Water 0 1000000000) (by simp) rfl ?_
 cases h7 : inRange k.Water 0 1000000000 with
 | false => simp -dsimp -implicitDefEqProofs; simp [ya4, h0, h1, h2, h3, h4, h5, h6, h7]
 | true =>
 simp -dsimp -implicitDefEqProofs
 refine yg (yE k.Gate 0 2) (by simp) rfl ?_
 cases h8 : inRange k.Gate 0 2 with
 | false => simp -dsimp -implicitDefEqProofs; simp [ya4, h0, h1, h2, h3, h4, h5, h6, h7, h8]
 | true =>
 simp -dsimp -implicitDefEqProofs
 refine yg (yjG k.Inside h) (by simp) rfl ?_
 cases h9 : Distinct k.Inside with
 | false => simp -dsimp -implicitDefEqProofs; simp [ya4, h0, h1, h2, h3, h4, h5, h6, h7, h8, h9]
 | true =>
  simp -dsimp -implicitDefEqProofs; simp [ya4, h0, h1, h2, h3, h4, h5, h6, h7, h8, h9]
theorem yxq (k : Lock) (h : k.small) : yF Tryz.prog yjb [.agg (k.enc.map .c)] (.c (.b (ya4 k))) := by
 refine yt yua (by simp) fun hwf => ?_
 simp -dsimp -implicitDefEqProofs [ynx]
 refine yg (yC k.Length 1 1000) (by simp) rfl ?_
 cases h0 : inRange k.Length 1 1000 with
 | false => simp -dsimp -implicitDefEqProofs; simp [ya4, h0]
 | true =>
 simp -dsimp -implicitDefEqProofs
 refine yg (yC k.Width 1 100) (by simp) rfl ?_
 cases h1 : inRange k.Width 1 100 with
 | false => simp -dsimp -implicitDefEqProofs; simp [ya4, h0, h1]
 | true =>
 simp -dsimp -implicitDefEqProofs
 refine yg (ydJ k.SillAbove) (by simp) rfl ?_
 cases h2 : inRange k.SillAbove 0 100000 with
 | false => simp -dsimp -implicitDefEqProofs; simp [ya4, h0, h1, h2]
 | true =>
 simp -dsimp -implicitDefEqProofs
 refine yg (ydJ k.SillBelow) (by simp) rfl ?_
 cases h3 : inRange k.SillBelow 0 100000 with
 | false => simp -dsimp -implicitDefEqProofs; simp [ya4, h0, h1, h2, h3]
 | true =>
 simp -dsimp -implicitDefEqProofs
 refine yg (ydJ k.Base) (by simp) rfl ?_
 cases h4 : inRange k.Base 0 100000 with
 | false => simp -dsimp -implicitDefEqProofs; simp [ya4, h0, h1, h2, h3, h4]
 | true =>
 simp -dsimp -implicitDefEqProofs
 refine yg (yC k.Area 1 10000) (by simp) rfl ?_
 cases h5 : inRange k.Area 1 10000 with
 | false => simp -dsimp -implicitDefEqProofs; simp [ya4, h0, h1, h2, h3, h4, h5]
 | true =>
 simp -dsimp -implicitDefEqProofs
 refine yg (yC k.Rate 1 100000) (by simp) rfl ?_
 cases h6 : inRange k.Rate 1 100000 with
 | false => simp -dsimp -implicitDefEqProofs; simp [ya4, h0, h1, h2, h3, h4, h5, h6]
 | true =>
 simp -dsimp -implicitDefEqProofs
 refine yg (yC k.Water 0 1000000000) (by simp) rfl ?_
 cases h7 : inRange k.Water 0 1000000000 with
 | false => simp -dsimp -implicitDefEqProofs; simp [ya4, h0, h1, h2, h3, h4, h5, h6, h7]
 | true =>
 simp -dsimp -implicitDefEqProofs
 refine yg (yC k.Gate 0 2) (by simp) rfl ?_
 cases h8 : inRange k.Gate 0 2 with
 | false => simp -dsimp -implicitDefEqProofs; simp [ya4, h0, h1, h2, h3, h4, h5, h6, h7, h8]
 | true =>
 simp -dsimp -implicitDefEqProofs
 refine yg (yxr k.Inside h) (by simp) rfl ?_
 cases h9 : Distinct k.Inside with
 | false => simp -dsimp -implicitDefEqProofs; simp [ya4, h0, h1, h2, h3, h4, h5, h6, h7, h8, h9]
 | true =>
  simp -dsimp -implicitDefEqProofs; simp [ya4, h0, h1, h2, h3, h4, h5, h6, h7, h8, h9]
def yaS (w : Work) : Bool := ya4 w.Lock && ycF w.Weir && yeL w.Rule && ycj w.Pauses && ytP w.Turn && decide (w.Calls.length ≤ 24) && w.Calls.all ybI
theorem wk1 {w : Work} (h : ya4 w.Lock = false) : yaS w = false := by simp [yaS, h]
theorem wk2 {w : Work} (h : ycF w.Weir = false) : yaS w = false := by simp [yaS, h]
theorem wk3 {w : Work} (h : yeL w.Rule = false) : yaS w = false := by simp [yaS, h]
theorem wk4 {w : Work} (h : ycj w.Pauses = false) : yaS w = false := by simp [yaS, h]
theorem wk5 {w : Work} (h : ytP w.Turn = false) : yaS w = false := by simp [yaS, h]
theorem wk6 {w : Work} (h : 24 < w.Calls.length) : yaS w = false := by
 have : ¬ w.Calls.length ≤ 24 := by omega
 simp [yaS, this]
theorem wk7 {w : Work} {k : Nat} {c : CallT} (hc : w.Calls[k]? = some c) (h : ybI c = false) : yaS w = false := by
 have : w.Calls.all ybI = false := all_false (p := ybI) hc h
 simp only [yaS, this, Bool.and_false]
theorem yyn (w : Work) (hs : w.small) : yF Tryz.prog yiB [.agg (w.enc.map .c)] (.c (.b (yaS w))) := by
 refine yt ytU (by simp) fun hwf => ?_
 simp -dsimp -implicitDefEqProofs [ynF]
 refine yg (yxO w.Lock hs.1) (by simp) rfl ?_
 cases h1 : ya4 w.Lock with
 | false => simp -dsimp -implicitDefEqProofs; exact wk1 h1
 | true =>
 simp -dsimp -implicitDefEqProofs
 refine yg (yxz w.Weir) (by simp) rfl ?_
 cases h2 : ycF w.Weir with
 | false => simp -dsimp -implicitDefEqProofs; exact wk2 h2
 | true =>
 simp -dsimp -implicitDefEqProofs
 refine yg (yxv w.Rule) (by simp) rfl ?_
 cases h3 : yeL w.Rule with
 | false => simp -dsimp -implicitDefEqProofs; exact wk3 h3
 | true =>
 simp -dsimp -implicitDefEqProofs
 refine yg (yt3 w.Pauses) (by simp) rfl ?_
 cases h4 : ycj w.Pauses with
 | false => simp -dsimp -implicitDefEqProofs; exact wk4 h4
 | true =>
 simp -dsimp -implicitDefEqProofs
 refine yg (yya w.Turn) (by simp) rfl ?_
 cases h5 : ytP w.Turn with
 | false => simp -dsimp -implicitDefEqProofs; exact wk5 h5
 | true =>
 simp -dsimp -implicitDefEqProofs
 intro hlen
 refine ⟨fun h6 => (wk6 (by omega)), fun h6 => ?_⟩
 refine fun _ => yh (ι := Nat) (fun k => k ≤ w.Calls.length ∧ ∀ c ∈ w.Calls.take k, ybI c = true) (fun k => yP [(38, .c (.sl 4 (w.Calls.map CallT.enc))), (39, .c (.i w.Calls.length)), (40, .c (.i k))] []) (fun k => w.Calls.length - k) 0 (by simp) (by apply yj <;> simp [AV.yc, AV.yA, Obj.yc]) ?_
 rintro k ⟨hk, hall⟩
 rcases Nat.lt_or_ge k w.Calls.length with hlt | hge
 ·obtain ⟨c, hc⟩ : ∃ c, w.Calls[k]? = some c := ⟨_, List.getElem?_eq_getElem hlt⟩
  simp -dsimp -implicitDefEqProofs [hc, yI hlt]
  refine yg (yxB c (hs.2.2.2 c (List.mem_of_getElem? hc))) (by simp) rfl ?_
  cases h7 : ybI c with
  | false => simp -dsimp -implicitDefEqProofs; exact wk7 hc h7
  | true =>
   simp -dsimp -implicitDefEqProofs
   exact ⟨yu hlt hlen, k + 1, ⟨hlt, yL (p := ybI) hc hall h7⟩, by omega, by apply yj <;> simp [AV.yc, AV.yA, Obj.yc]⟩
 ·simp -dsimp -implicitDefEqProofs [yah hge]
  have h7 := yQ (p := ybI) hge hall
  have h6' : w.Calls.length ≤ 24 := by omega
  simp [yaS, h1, h2, h3, h4, h5, h6', h7]
theorem yxb (w : Work) (hs : w.small) : yF Tryz.prog yiZ [.agg (w.enc.map .c)] (.c (.b (yaS w))) := by
 refine yt yup (by simp) fun hwf => ?_
 simp -dsimp -implicitDefEqProofs [ynK]
 refine yh (ι := Nat) (fun k => k ≤ w.Calls.length ∧ ∀ c ∈ w.Calls.take k, ybI c = true) (fun k => yP [(1, .box 1 0), (3, .c (.i k))] [(1, .box (w.enc.map .c))]) (fun k => w.Calls.length - k) 0 (by simp) (by apply yj <;> simp [AV.yc, AV.yA, Obj.yc]) ?_
 rintro k ⟨hk, hall⟩
 rcases Nat.lt_or_ge k w.Calls.length with hlt | hge
 ·obtain ⟨c, hc⟩ : ∃ c, w.Calls[k]? = some c := ⟨_, List.getElem?_eq_getElem hlt⟩
  simp -dsimp -implicitDefEqProofs [hc, yI hlt]
  intro hlen
  refine yg (yyw c (hs.2.2.2 c (List.mem_of_getElem? hc))) (by simp) rfl ?_
  cases h7 : ybI c with
  | false => simp -dsimp -implicitDefEqProofs; exact wk7 hc h7
  | true =>
   simp -dsimp -implicitDefEqProofs
   exact ⟨yu hlt hlen, k + 1, ⟨hlt, yL (p := ybI) hc hall h7⟩, by omega, by apply yj <;> simp [AV.yc, AV.yA, Obj.yc]⟩
 ·simp -dsimp -implicitDefEqProofs [yah hge]
  have h7 := yQ (p := ybI) hge hall
  intro _
  refine ⟨fun h6 => ?_, fun h6 => (wk6 (by omega))⟩
  have h6' : w.Calls.length ≤ 24 := by omega
  refine yg (yxq w.Lock hs.1) (by simp) rfl ?_
  cases h1 : ya4 w.Lock with
  | false => simp -dsimp -implicitDefEqProofs; exact wk1 h1
  | true =>
  simp -dsimp -implicitDefEqProofs
  refine yg (yyd w.Weir) (by simp) rfl ?_
  cases h2 : ycF w.Weir with
  | false => simp -dsimp -implicitDefEqProofs; exact wk2 h2
  | true =>
  simp -dsimp -implicitDefEqProofs
  refine yg (yxh w.Rule) (by simp) rfl ?_
  cases h3 : yeL w.Rule with
  | false => simp -dsimp -implicitDefEqProofs; exact wk3 h3
  | true =>
  simp -dsimp -implicitDefEqProofs
  refine yg (yuK w.Pauses) (by simp) rfl ?_
  cases h4 : ycj w.Pauses with
  | false => simp -dsimp -implicitDefEqProofs; exact wk4 h4
  | true =>
  simp -dsimp -implicitDefEqProofs
  refine yg (yyu w.Turn) (by simp) rfl ?_
  simp -dsimp -implicitDefEqProofs
  simp [yaS, h1, h2, h3, h4, h6', h7]
def yjP (xs : List Entry) (l : Int) : Int := szS xs.length l
def yoT : List Entry → Prop := ycr fun _ => True
theorem ypd : yeU yjP yoT := yj1
theorem yxV (xs : List Entry) (l : Int) (h0 : 0 ≤ l) (h1 : l ≤ 1048576) : yF Tryz.prog ygK [.c (.sl 5 (xs.map Entry.enc)), .c (.i l)] (.c (.i (yjP xs l))) := by
 refine yt yq8 (by simp) fun hwf => ?_
 simp -dsimp -implicitDefEqProofs [ykW, yjP, szS]
 intro hl
 unfold maxLen at hl
 refine ⟨by unfold inI; omega, fun h => ?_, fun h => ?_⟩ <;> intros <;> omega
theorem yEe (a b : Way) : yF Tryz.prog yko [.agg (a.enc.map .c), .agg (b.enc.map .c)] (.c (.b (decide (a = b)))) := by
 refine yt yvX (by simp) fun hwf => ?_
 obtain ⟨a0, a1⟩ := a
 obtain ⟨b0, b1⟩ := b
 simp -dsimp -implicitDefEqProofs [ypj, Way.mk.injEq]
 refine ⟨fun h => by simp_all, fun h0 => ?_⟩
 refine ⟨fun h => by simp_all, fun h1 => ?_⟩
 simp_all
-- []Reach
def yd6 : List Reach → Int → Int := yeY ycb
def ygT : List Reach → Prop := ycr Reach.small
theorem ypF : yeU yd6 ygT := yiu yqs
theorem yx7 (xs : List Reach) (l : Int) (h0 : 0 ≤ l) (h1 : l ≤ 1048576) : yF Tryz.prog ygu [.c (.sl 3 (xs.map Reach.enc)), .c (.i l)] (.c (.i (yd6 xs l))) := by
 refine yt yre (by simp) fun hwf => ?_
 simp -dsimp -implicitDefEqProofs [ylv]
 intro hl
 have hs : szS xs.length l = if l - xs.length < 0 then -1 else l - xs.length := rfl
 refine ⟨by unfold maxLen at hl; unfold inI; omega, fun h => ?_, fun h => ?_⟩
 ·simp [yd6, yeY, ybd, hs, h]
 have h' : 0 ≤ l - xs.length := by omega
 have e0 : yd6 xs l = yan ycb xs (l - xs.length) := by
  have : szS xs.length l = l - xs.length := by rw [hs, if_neg (by omega)]
  simp only [yd6, yeY]
  rw [this, yw h']
 refine yh (ι := Nat × Int) (fun p => p.1 ≤ xs.length ∧ 0 ≤ p.2 ∧ p.2 ≤ 1048576 ∧ yan ycb (xs.drop p.1) p.2 = yd6 xs l) (fun p => yP [(0, .c (.sl 3 (xs.map Reach.enc))), (1, .c (.i p.2)), (5, .c (.i p.1))] []) (fun p => xs.length - p.1) (0, l - xs.length) ⟨by simp, h', by simp only; omega, by simp [e0]⟩ (by apply yj <;> simp [AV.yc, AV.yA, Obj.yc]) ?_
 rintro ⟨k, q⟩ ⟨hk, hq0, hq1, hf⟩
 simp only at hk hq0 hq1 hf
 rcases Nat.lt_or_ge k xs.length with hlt | hge
 ·obtain ⟨e, he⟩ : ∃ e, xs[k]? = some e := ⟨_, List.getElem?_eq_getElem hlt⟩
  have hd : xs.drop k = e :: xs.drop (k + 1) := by
   rw [List.drop_eq_getElem_cons hlt, (List.getElem?_eq_some_iff.1 he).2]
  rw [hd, yan] at hf
  simp -dsimp -implicitDefEqProofs [he, yI hlt]
  refine fun _ => yg (yzk e q hq0 hq1) (by simp) rfl ?_
  simp -dsimp -implicitDefEqProofs
  refine ⟨fun h => by rw [← hf, yM h], fun h => ⟨yu hlt hl, k + 1, ⟨ycb e q, ?_⟩⟩⟩
  rw [yw h] at hf
  have hle : ycb e q ≤ 1048576 := by
   rcases yqs e q hq0 hq1 with e1 | e1
   ·omega
   ·omega
  exact ⟨⟨hlt, h, hle, hf⟩, by omega, by apply yj <;> simp [AV.yc, AV.yA, Obj.yc]⟩
 ·simp -dsimp -implicitDefEqProofs [yah hge]
  rw [List.drop_of_length_le hge] at hf
  intro _
  first | simpa [yan] using hf | simpa [yan] using hf.symm
theorem yzx (xs : List Reach) (hl : ygT xs) : yF Tryz.prog ydE [.c (.sl 3 (xs.map Reach.enc))] (.c (.sl 3 (xs.map Reach.enc))) := by
 refine yt yli (by simp) fun hwf => ?_
 simp -dsimp -implicitDefEqProofs [ygz]
 intro hlen
 have hl1 := hl.1
 refine ⟨by omega, ?_⟩
 refine yh (ι := Nat) (fun k => k ≤ xs.length) (fun k => yP [(0, .c (.sl 3 (xs.map Reach.enc))), (3, .own 7 3 xs.length), (4, .c (.i k))] [(7, .row 3 (partly Reach.enc [.sl 2 [], .i 0, .sl 1 []] xs k))]) (fun k => xs.length - k) 0 (by simp) (by apply yj <;> simp [AV.yc, AV.yA, Obj.yc, yX]) ?_
 rintro k hk
 rcases Nat.lt_or_ge k xs.length with hlt | hge
 ·obtain ⟨e, he⟩ : ∃ e, xs[k]? = some e := ⟨_, List.getElem?_eq_getElem hlt⟩
  have hs := yae (f := Reach.enc) (z := [.sl 2 [], .i 0, .sl 1 []]) he
  have hd := yam (f := Reach.enc) (z := [.sl 2 [], .i 0, .sl 1 []]) (n := 3) rfl hlt
  simp only [Reach.enc] at hs
  simp -dsimp -implicitDefEqProofs [he, yI hlt]
  refine fun _ => yJ (yAS e (hl.2 e (List.mem_of_getElem? he))) (by simp) rfl ?_
  simp -dsimp -implicitDefEqProofs [yI hlt, yaf hk, hd, hs]
  exact ⟨hlt, yu hlt hlen, k + 1, hlt, by omega, by apply yj <;> simp [AV.yc, AV.yA, Obj.yc]⟩
 ·simp -dsimp -implicitDefEqProofs [yah hge]
  intro _
  rw [yad hge, List.take_of_length_le (by simp)]
theorem yzF (es fs : List Reach) : yF Tryz.prog ygL [.c (.sl 3 (es.map Reach.enc)), .c (.sl 3 (fs.map Reach.enc))] (.c (.b (decide (es = fs)))) := by
 refine yt yrj (by simp) fun hwf => ?_
 simp -dsimp -implicitDefEqProofs [ylg]
 intro hl1 hl2
 refine ⟨fun h e => h (by rw [e]), fun hlen => ?_⟩
 have hlen' : es.length = fs.length := by omega
 refine yh (ι := Nat) (fun k => k ≤ es.length ∧ es.take k = fs.take k) (fun k => yP [(0, .c (.sl 3 (es.map Reach.enc))), (1, .c (.sl 3 (fs.map Reach.enc))), (5, .c (.i k))] []) (fun k => es.length - k) 0 (by simp) (by apply yj <;> simp [AV.yc, AV.yA, Obj.yc]) ?_
 rintro k ⟨hk, htk⟩
 rcases Nat.lt_or_ge k es.length with hlt | hge
 ·obtain ⟨e, he⟩ : ∃ e, es[k]? = some e := ⟨_, List.getElem?_eq_getElem hlt⟩
  obtain ⟨f, hf⟩ : ∃ f, fs[k]? = some f := ⟨_, List.getElem?_eq_getElem (by omega)⟩
  simp -dsimp -implicitDefEqProofs [he, hf, yI hlt, yI (hlen' ▸ hlt)]
  intro _
  refine ⟨_, _, yBy e f, by simp, .inr rfl, ?_⟩
  simp -dsimp -implicitDefEqProofs
  refine ⟨fun h => ybl he hf h, fun h => ⟨yu hlt hl1, k + 1, ⟨hlt, yaI he hf htk h⟩, by omega, by apply yj <;> simp [AV.yc, AV.yA, Obj.yc]⟩⟩
 ·simp -dsimp -implicitDefEqProofs [yah hge]
  intro _
  exact ya5 hge hlen' htk
-- []Way
def ypr (xs : List Way) (l : Int) : Int := szS xs.length l
def yjV : List Way → Prop := ycr fun _ => True
theorem ytz : yeU ypr yjV := yj1
theorem yAK (xs : List Way) (l : Int) (h0 : 0 ≤ l) (h1 : l ≤ 1048576) : yF Tryz.prog yi9 [.c (.sl 2 (xs.map Way.enc)), .c (.i l)] (.c (.i (ypr xs l))) := by
 refine yt yuo (by simp) fun hwf => ?_
 simp -dsimp -implicitDefEqProofs [yn5, ypr, szS]
 intro hl
 unfold maxLen at hl
 refine ⟨by unfold inI; omega, fun h => ?_, fun h => ?_⟩ <;> intros <;> omega
theorem yCs (xs : List Way) (hl : yjV xs) : yF Tryz.prog yfI [.c (.sl 2 (xs.map Way.enc))] (.c (.sl 2 (xs.map Way.enc))) := by
 refine yt ynE (by simp) fun hwf => ?_
 simp -dsimp -implicitDefEqProofs [yiT]
 intro hlen
 have hl1 := hl.1
 refine ⟨by omega, ?_⟩
 refine yh (ι := Nat) (fun k => k ≤ xs.length) (fun k => yP [(0, .c (.sl 2 (xs.map Way.enc))), (3, .own 7 2 xs.length), (4, .c (.i k))] [(7, .row 2 (partly Way.enc [.i 0, .i 0] xs k))]) (fun k => xs.length - k) 0 (by simp) (by apply yj <;> simp [AV.yc, AV.yA, Obj.yc, yX]) ?_
 rintro k hk
 rcases Nat.lt_or_ge k xs.length with hlt | hge
 ·obtain ⟨e, he⟩ : ∃ e, xs[k]? = some e := ⟨_, List.getElem?_eq_getElem hlt⟩
  have hs := yae (f := Way.enc) (z := [.i 0, .i 0]) he
  have hd := yam (f := Way.enc) (z := [.i 0, .i 0]) (n := 2) rfl hlt
  simp only [Way.enc] at hs
  simp -dsimp -implicitDefEqProofs [he, yI hlt]
  refine fun _ => yJ (yAg e ) (by simp) rfl ?_
  simp -dsimp -implicitDefEqProofs [yI hlt, yaf hk, hd, hs]
  exact ⟨hlt, yu hlt hlen, k + 1, hlt, by omega, by apply yj <;> simp [AV.yc, AV.yA, Obj.yc]⟩
 ·simp -dsimp -implicitDefEqProofs [yah hge]
  intro _
  rw [yad hge, List.take_of_length_le (by simp)]
end Go.Proofs.YtmimbhooaidelaaGreat
