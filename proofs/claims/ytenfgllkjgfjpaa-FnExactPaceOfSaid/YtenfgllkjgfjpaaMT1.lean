/- Contracts of functions of this seat: what each answers, as plain Lean. -/
import Derived.Test.YtenfgllkjgfjpaaMCore20
import Derived.Test.YtenfgllkjgfjpaaMCode1
set_option linter.all false
namespace Go.Proofs.Ytenfgllkjgfjpaa
open Go.RowKit

def inRange (n a b : Int) : Bool := decide (a ≤ n) && decide (n ≤ b)

theorem inRange_impl (n a b : Int) : PureF Try.prog n_impl_inRange [.c (.i n), .c (.i a), .c (.i b)] (.c (.b (inRange n a b))) := by
  refine pure_of h_impl_inRange (by simp) fun hwf => ?_
  simp -dsimp -implicitDefEqProofs [c_impl_inRange, inRange]
  exact ⟨fun h => by simp [h], fun h => by simp [Int.not_le.2 h]⟩
theorem inRange_spec (n a b : Int) : PureF Try.prog n_spec_l01In [.c (.i n), .c (.i a), .c (.i b)] (.c (.b (inRange n a b))) := by
  refine pure_of h_spec_l01In (by simp) fun hwf => ?_
  simp -dsimp -implicitDefEqProofs [c_spec_l01In, inRange]
  exact ⟨fun h => by simp [h], fun h => by simp [Int.not_le.2 h]⟩

structure Entry where
  From : Int
  To : Int
  Amount : Int
  Time : Int
  Why : Int
  deriving Inhabited, DecidableEq

@[simp] def Entry.enc (e : Entry) : List C := [.i e.From, .i e.To, .i e.Amount, .i e.Time, .i e.Why]

def EntryOk (e : Entry) : Bool := decide (e.From ≠ e.To) && inRange e.From 0 11 && inRange e.To 0 11 && inRange e.Amount 1 1000000000 && inRange e.Time 0 1000000 && inRange e.Why 0 9999

theorem EntryOk_impl (e : Entry) : PureF Try.prog n_impl_EntryOk [.agg (e.enc.map .c)] (.c (.b (EntryOk e))) := by
  refine pure_of h_impl_EntryOk (by simp) fun hwf => ?_
  simp -dsimp -implicitDefEqProofs [c_impl_EntryOk]
  refine ⟨fun h => ?_, fun h => by simp [EntryOk, h]⟩
  refine call_lend (inRange_impl e.From 0 11) (by simp) rfl ?_
  simp -dsimp -implicitDefEqProofs
  refine ⟨fun h1 => ?_, fun h1 => by simp [EntryOk, h1]⟩
  refine call_lend (inRange_impl e.To 0 11) (by simp) rfl ?_
  simp -dsimp -implicitDefEqProofs
  refine ⟨fun h2 => ?_, fun h1 => by simp [EntryOk, h1]⟩
  refine call_lend (inRange_impl e.Amount 1 1000000000) (by simp) rfl ?_
  simp -dsimp -implicitDefEqProofs
  refine ⟨fun h3 => ?_, fun h1 => by simp [EntryOk, h1]⟩
  refine call_lend (inRange_impl e.Time 0 1000000) (by simp) rfl ?_
  simp -dsimp -implicitDefEqProofs
  refine ⟨fun h4 => ?_, fun h1 => by simp [EntryOk, h1]⟩
  refine call_lend (inRange_impl e.Why 0 9999) (by simp) rfl ?_
  simp -dsimp -implicitDefEqProofs
  simp [EntryOk, h, h1, h2, h3, h4]

def BookOk (es : List Entry) : Bool := decide (es.length ≤ 2000) && es.all EntryOk

theorem all_take_succ {α : Type} {p : α → Bool} {l : List α} {k : Nat} {e : α} (he : l[k]? = some e) (h : ∀ x ∈ l.take k, p x = true) (hp : p e = true) : ∀ x ∈ l.take (k + 1), p x = true := by
  intro x hx
  rw [List.take_succ_eq_append_getElem (List.getElem?_eq_some_iff.1 he).1] at hx
  rcases List.mem_append.1 hx with h1 | h1
  · exact h x h1
  · rw [List.mem_singleton] at h1
    have := (List.getElem?_eq_some_iff.1 he).2
    rw [h1, this]; exact hp
theorem all_of_take {α : Type} {p : α → Bool} {l : List α} {k : Nat} (hk : l.length ≤ k) (h : ∀ x ∈ l.take k, p x = true) : l.all p = true := by
  rw [List.take_of_length_le hk] at h
  exact List.all_eq_true.2 h
theorem all_false {α : Type} {p : α → Bool} {l : List α} {k : Nat} {e : α} (he : l[k]? = some e) (hp : p e = false) : l.all p = false := by
  rw [List.all_eq_false]
  exact ⟨e, List.mem_of_getElem? he, by simp [hp]⟩

theorem lt_t {k n : Nat} (h : k < n) : ((k : Int) < (n : Int)) = True := by simp [h]
theorem lt_f {k n : Nat} (h : n ≤ k) : ((k : Int) < (n : Int)) = False := by simp [h]
theorem BookOk_impl (es : List Entry) : PureF Try.prog n_impl_BookOk [.c (.sl 5 (es.map Entry.enc))] (.c (.b (BookOk es))) := by
  refine pure_of h_impl_BookOk (by simp) fun hwf => ?_
  simp -dsimp -implicitDefEqProofs [c_impl_BookOk]
  intro hlen
  refine ⟨fun h => by simp [BookOk]; omega, fun h _ => ?_⟩
  refine loop_rule (ι := Nat) (fun k => k ≤ es.length ∧ ∀ e ∈ es.take k, EntryOk e = true) (fun k => stOf [(8, .c (.sl 5 (es.map Entry.enc))), (9, .c (.i es.length)), (10, .c (.i k))] []) (fun k => es.length - k) 0 (by simp) (by apply le_of <;> simp [AV.refs1, AV.ref0]) ?_
  rintro k ⟨hk, hall⟩
  rcases Nat.lt_or_ge k es.length with hlt | hge
  · obtain ⟨e, he⟩ : ∃ e, es[k]? = some e := ⟨_, List.getElem?_eq_getElem hlt⟩
    simp -dsimp -implicitDefEqProofs [he, lt_t hlt]
    refine call_lend (EntryOk_impl e) (by simp) rfl ?_
    simp -dsimp -implicitDefEqProofs
    refine ⟨fun h1 => by simp [BookOk, all_false he h1], fun h1 => ?_⟩
    refine ⟨by unfold maxLen at hlen; constructor <;> omega, k + 1, ⟨by omega, all_take_succ he hall h1⟩, by omega, ?_⟩
    apply le_of <;> simp [AV.refs1, AV.ref0]
  · simp -dsimp -implicitDefEqProofs [lt_f hge]
    have := all_of_take hge hall
    simp [BookOk, this]; omega

end Go.Proofs.Ytenfgllkjgfjpaa
