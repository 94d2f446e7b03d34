/- Contracts of functions of this seat: what each answers, as plain Lean. -/
import Derived.Test.YtpcopekamgapaaaGreatMCode1
import Derived.Test.YtpcopekamgapaaaGreatMCode2
import Derived.Test.YtpcopekamgapaaaGreatMCode3
import Derived.Test.YtpcopekamgapaaaGreatMCode4
import Derived.Test.YtpcopekamgapaaaGreatMCode5
import Derived.Test.YtpcopekamgapaaaGreatMCode6
import Derived.Test.YtpcopekamgapaaaGreatMCode7
import Derived.Test.YtpcopekamgapaaaGreatMA4
set_option linter.all false
namespace Go.Proofs.YtpcopekamgapaaaGreat
open Go.RowKit

def inRange (n a b : Int) : Bool := decide (a ≤ n) && decide (n ≤ b)

theorem inRange_impl (n a b : Int) : PureF Tryz.prog n_impl_inRange [.c (.i n), .c (.i a), .c (.i b)] (.c (.b (inRange n a b))) := by
  refine pure_of h_impl_inRange (by simp) fun hwf => ?_
  simp -dsimp -implicitDefEqProofs [c_impl_inRange, inRange]
  exact ⟨fun h => by simp [h], fun h => by simp [Int.not_le.2 h]⟩
theorem inRange_spec (n a b : Int) : PureF Tryz.prog n_spec_l01In [.c (.i n), .c (.i a), .c (.i b)] (.c (.b (inRange n a b))) := by
  refine pure_of h_spec_l01In (by simp) fun hwf => ?_
  simp -dsimp -implicitDefEqProofs [c_spec_l01In, inRange]
  exact ⟨fun h => by simp [h], fun h => by simp [Int.not_le.2 h]⟩

structure Entry where
  From : Int
  To : Int
  Amount : Int
  Time : Int
  Why : Int
  deriving Inhabited, DecidableEq

@[simp] def Entry.enc (e : Entry) : List C := [.i e.From, .i e.To, .i e.Amount, .i e.Time, .i e.Why]

def EntryOk (e : Entry) : Bool := decide (e.From ≠ e.To) && inRange e.From 0 11 && inRange e.To 0 11 && inRange e.Amount 1 1000000000 && inRange e.Time 0 1000000 && inRange e.Why 0 9999

theorem EntryOk_impl (e : Entry) : PureF Tryz.prog n_impl_EntryOk [.agg (e.enc.map .c)] (.c (.b (EntryOk e))) := by
  refine pure_of h_impl_EntryOk (by simp) fun hwf => ?_
  simp -dsimp -implicitDefEqProofs [c_impl_EntryOk]
  refine ⟨fun h => ?_, fun h => by simp [EntryOk, h]⟩
  refine call_lend (inRange_impl e.From 0 11) (by simp) rfl ?_
  simp -dsimp -implicitDefEqProofs
  refine ⟨fun h1 => ?_, fun h1 => by simp [EntryOk, h1]⟩
  refine call_lend (inRange_impl e.To 0 11) (by simp) rfl ?_
  simp -dsimp -implicitDefEqProofs
  refine ⟨fun h2 => ?_, fun h1 => by simp [EntryOk, h1]⟩
  refine call_lend (inRange_impl e.Amount 1 1000000000) (by simp) rfl ?_
  simp -dsimp -implicitDefEqProofs
  refine ⟨fun h3 => ?_, fun h1 => by simp [EntryOk, h1]⟩
  refine call_lend (inRange_impl e.Time 0 1000000) (by simp) rfl ?_
  simp -dsimp -implicitDefEqProofs
  refine ⟨fun h4 => ?_, fun h1 => by simp [EntryOk, h1]⟩
  refine call_lend (inRange_impl e.Why 0 9999) (by simp) rfl ?_
  simp -dsimp -implicitDefEqProofs
  simp [EntryOk, h, h1, h2, h3, h4]

def BookOk (es : List Entry) : Bool := decide (es.length ≤ 2000) && es.all EntryOk

theorem all_take_succ {α : Type} {p : α → Bool} {l : List α} {k : Nat} {e : α} (he : l[k]? = some e) (h : ∀ x ∈ l.take k, p x = true) (hp : p e = true) : ∀ x ∈ l.take (k + 1), p x = true := by
  intro x hx
  rw [List.take_succ_eq_append_getElem (List.getElem?_eq_some_iff.1 he).1] at hx
  rcases List.mem_append.1 hx with h1 | h1
  · exact h x h1
  · rw [List.mem_singleton] at h1
    have := (List.getElem?_eq_some_iff.1 he).2
    rw [h1, this]; exact hp
theorem all_of_take {α : Type} {p : α → Bool} {l : List α} {k : Nat} (hk : l.length ≤ k) (h : ∀ x ∈ l.take k, p x = true) : l.all p = true := by
  rw [List.take_of_length_le hk] at h
  exact List.all_eq_true.2 h
theorem all_false {α : Type} {p : α → Bool} {l : List α} {k : Nat} {e : α} (he : l[k]? = some e) (hp : p e = false) : l.all p = false := by
  rw [List.all_eq_false]
  exact ⟨e, List.mem_of_getElem? he, by simp [hp]⟩

theorem lt_t {k n : Nat} (h : k < n) : ((k : Int) < (n : Int)) = True := by simp [h]
theorem lt_f {k n : Nat} (h : n ≤ k) : ((k : Int) < (n : Int)) = False := by simp [h]
theorem BookOk_impl (es : List Entry) : PureF Tryz.prog n_impl_BookOk [.c (.sl 5 (es.map Entry.enc))] (.c (.b (BookOk es))) := by
  refine pure_of h_impl_BookOk (by simp) fun hwf => ?_
  simp -dsimp -implicitDefEqProofs [c_impl_BookOk]
  intro hlen
  refine ⟨fun h => by simp [BookOk]; omega, fun h _ => ?_⟩
  refine loop_rule (ι := Nat) (fun k => k ≤ es.length ∧ ∀ e ∈ es.take k, EntryOk e = true) (fun k => stOf [(8, .c (.sl 5 (es.map Entry.enc))), (9, .c (.i es.length)), (10, .c (.i k))] []) (fun k => es.length - k) 0 (by simp) (by apply le_of <;> simp [AV.refs1, AV.ref0]) ?_
  rintro k ⟨hk, hall⟩
  rcases Nat.lt_or_ge k es.length with hlt | hge
  · obtain ⟨e, he⟩ : ∃ e, es[k]? = some e := ⟨_, List.getElem?_eq_getElem hlt⟩
    simp -dsimp -implicitDefEqProofs [he, lt_t hlt]
    refine call_lend (EntryOk_impl e) (by simp) rfl ?_
    simp -dsimp -implicitDefEqProofs
    refine ⟨fun h1 => by simp [BookOk, all_false he h1], fun h1 => ?_⟩
    refine ⟨by unfold maxLen at hlen; constructor <;> omega, k + 1, ⟨by omega, all_take_succ he hall h1⟩, by omega, ?_⟩
    apply le_of <;> simp [AV.refs1, AV.ref0]
  · simp -dsimp -implicitDefEqProofs [lt_f hge]
    have := all_of_take hge hall
    simp [BookOk, this]; omega
structure Way where
  Long : Int
  Bed : Int
  deriving DecidableEq, Inhabited
@[simp] def Way.enc (e : Way) : List C := [.i e.Long, .i e.Bed]
def WayOk (e : Way) : Bool := inRange e.Long 1 10000 && inRange e.Bed 0 100000

theorem l03Level_c (n : Int) : PureF Tryz.prog n_spec_l03Level [.c (.i n)] (.c (.b (inRange n 0 100000))) := by
  refine pure_of h_spec_l03Level (by simp) fun hwf => ?_
  simp -dsimp -implicitDefEqProofs [c_spec_l03Level]
  refine call_lend (inRange_spec n 0 100000) (by simp) rfl ?_
  simp -dsimp -implicitDefEqProofs
theorem WayOk_impl (e : Way) : PureF Tryz.prog n_impl_WayOk [.agg (e.enc.map .c)] (.c (.b (WayOk e))) := by
  refine pure_of h_impl_WayOk (by simp) fun hwf => ?_
  simp -dsimp -implicitDefEqProofs [c_impl_WayOk]
  refine call_lend (inRange_impl e.Long 1 10000) (by simp) rfl ?_
  simp -dsimp -implicitDefEqProofs
  refine ⟨fun h => ?_, fun h => by simp [WayOk, h]⟩
  refine call_lend (inRange_impl e.Bed 0 100000) (by simp) rfl ?_
  simp -dsimp -implicitDefEqProofs
  simp [WayOk, h]
theorem WayOk_spec (e : Way) : PureF Tryz.prog n_spec_WayOk [.agg (e.enc.map .c)] (.c (.b (WayOk e))) := by
  refine pure_of h_spec_WayOk (by simp) fun hwf => ?_
  simp -dsimp -implicitDefEqProofs [c_spec_WayOk]
  refine call_lend (inRange_spec e.Long 1 10000) (by simp) rfl ?_
  simp -dsimp -implicitDefEqProofs
  refine ⟨fun h => ?_, fun h => by simp [WayOk, h]⟩
  refine call_lend (l03Level_c e.Bed) (by simp) rfl ?_
  simp -dsimp -implicitDefEqProofs
  simp [WayOk, h]
theorem toWay_c (e : Way) : PureF Tryz.prog n_laws_toWay [.agg (e.enc.map .c)] (.agg (e.enc.map .c)) := by
  refine pure_of h_laws_toWay (by simp) fun hwf => ?_
  simp -dsimp -implicitDefEqProofs [c_laws_toWay]
theorem EntryOk_spec (e : Entry) : PureF Tryz.prog n_spec_EntryOk [.agg (e.enc.map .c)] (.c (.b (EntryOk e))) := by
  refine pure_of h_spec_EntryOk (by simp) fun hwf => ?_
  simp -dsimp -implicitDefEqProofs [c_spec_EntryOk]
  refine ⟨fun h => ?_, fun h => by simp [EntryOk, h]⟩
  refine call_lend (inRange_spec e.From 0 11) (by simp) rfl ?_
  simp -dsimp -implicitDefEqProofs
  refine ⟨fun h1 => ?_, fun h1 => by simp [EntryOk, h1]⟩
  refine call_lend (inRange_spec e.To 0 11) (by simp) rfl ?_
  simp -dsimp -implicitDefEqProofs
  refine ⟨fun h2 => ?_, fun h1 => by simp [EntryOk, h1]⟩
  refine call_lend (inRange_spec e.Amount 1 1000000000) (by simp) rfl ?_
  simp -dsimp -implicitDefEqProofs
  refine ⟨fun h3 => ?_, fun h1 => by simp [EntryOk, h1]⟩
  refine call_lend (inRange_spec e.Time 0 1000000) (by simp) rfl ?_
  simp -dsimp -implicitDefEqProofs
  refine ⟨fun h4 => ?_, fun h1 => by simp [EntryOk, h1]⟩
  refine call_lend (inRange_spec e.Why 0 9999) (by simp) rfl ?_
  simp -dsimp -implicitDefEqProofs
  simp [EntryOk, h, h1, h2, h3, h4]
theorem toEntry_c (e : Entry) : PureF Tryz.prog n_laws_toEntry [.agg (e.enc.map .c)] (.agg (e.enc.map .c)) := by
  refine pure_of h_laws_toEntry (by simp) fun hwf => ?_
  simp -dsimp -implicitDefEqProofs [c_laws_toEntry]
theorem eqEntry_c (e f : Entry) : PureF Tryz.prog n_laws_eqEntry [.agg (e.enc.map .c), .agg (f.enc.map .c)] (.c (.b (decide (e = f)))) := by
  refine pure_of h_laws_eqEntry (by simp) fun hwf => ?_
  obtain ⟨a1, a2, a3, a4, a5⟩ := e
  obtain ⟨b1, b2, b3, b4, b5⟩ := f
  simp -dsimp -implicitDefEqProofs [c_laws_eqEntry, Entry.mk.injEq]
  refine ⟨fun h => by simp [h], fun h => ⟨fun h1 => by simp [h1], fun h1 => ⟨fun h2 => by simp [h2], fun h2 => ⟨fun h3 => by simp [h3], fun h3 => ⟨fun h4 => by simp [h4], fun h4 => by simp [h, h1, h2, h3, h4]⟩⟩⟩⟩⟩
theorem get_map {α : Type} {f : α → List C} {l : List α} {k : Nat} {e : α} (h : l[k]? = some e) : (l.map f)[k]? = some (f e) := by simp [h]

/-- Rows so far copied, the rest zero. -/
def partly {α : Type} (f : α → List C) (z : List C) (es : List α) (k : Nat) : List (List C) := (es.take k).map f ++ List.replicate (es.length - k) z
theorem partly_len {α : Type} {f : α → List C} {z : List C} {es : List α} {k : Nat} (h : k ≤ es.length) : (partly f z es k).length = es.length := by
  simp [partly]; omega
theorem partly_zero {α : Type} {f : α → List C} {z : List C} {es : List α} : partly f z es 0 = List.replicate es.length z := by simp [partly]
theorem partly_all {α : Type} {f : α → List C} {z : List C} {es : List α} {k : Nat} (h : es.length ≤ k) : partly f z es k = es.map f := by
  simp [partly, List.take_of_length_le h, Nat.sub_eq_zero_of_le h]
theorem partly_set {α : Type} {f : α → List C} {z : List C} {es : List α} {k : Nat} {e : α} (h : es[k]? = some e) : (partly f z es k).set k (f e) = partly f z es (k + 1) := by
  have hk := (List.getElem?_eq_some_iff.1 h).1
  have he := (List.getElem?_eq_some_iff.1 h).2
  unfold partly
  rw [List.set_append_right _ _ (by simp; omega)]
  have h1 : ((es.take k).map f).length = k := by simp; omega
  rw [h1, Nat.sub_self, show es.length - k = (es.length - (k + 1)) + 1 by omega, List.replicate_succ, List.set_cons_zero, List.take_succ_eq_append_getElem hk, he]
  simp
theorem partly_get {α : Type} {f : α → List C} {z : List C} {es : List α} {k n : Nat} (hz : z.length = n) (hf : ∀ e, (f e).length = n) (h : k < es.length) : ((partly f z es k)[k]?.getD []).length = n := by
  unfold partly
  rw [List.getElem?_append_right (by simp; omega)]
  have h1 : ((es.take k).map f).length = k := by simp; omega
  rw [h1, Nat.sub_self, List.getElem?_replicate, if_pos (by omega)]
  exact hz

theorem partly_drop {α : Type} {f : α → List C} {z : List C} {es : List α} {k n : Nat} (hz : z.length = n) (h : k < es.length) : ((partly f z es k)[k]?.getD []).drop n = [] := by
  apply List.drop_eq_nil_of_le
  unfold partly
  rw [List.getElem?_append_right (by simp; omega)]
  have h1 : ((es.take k).map f).length = k := by simp; omega
  rw [h1, Nat.sub_self, List.getElem?_replicate, if_pos (by omega)]
  simp [hz]
theorem inI_succ {k n : Nat} (hk : k < n) (h : n ≤ maxLen) : inI ((k : Int) + 1) := by unfold maxLen at h; unfold inI; omega

def szS (n : Nat) (left : Int) : Int := if left - n < 0 then -1 else left - n
theorem szEntryS_c (es : List Entry) : PureF Tryz.prog n_laws_szEntryS [.c (.sl 5 (es.map Entry.enc)), .c (.i 1048576)] (.c (.i (szS es.length 1048576))) := by
  refine pure_of h_laws_szEntryS (by simp) fun hwf => ?_
  simp -dsimp -implicitDefEqProofs [c_laws_szEntryS, szS]
  intro hl
  unfold maxLen at hl
  refine ⟨by unfold inI; omega, fun h => ?_, fun h => ?_⟩ <;> intros <;> omega
theorem toEntryS_c (es : List Entry) (hl : es.length ≤ 1048576) : PureF Tryz.prog n_laws_toEntryS [.c (.sl 5 (es.map Entry.enc))] (.c (.sl 5 (es.map Entry.enc))) := by
  refine pure_of h_laws_toEntryS (by simp) fun hwf => ?_
  simp -dsimp -implicitDefEqProofs [c_laws_toEntryS]
  intro hlen
  refine ⟨by omega, ?_⟩
  refine loop_rule (ι := Nat) (fun k => k ≤ es.length) (fun k => stOf [(0, .c (.sl 5 (es.map Entry.enc))), (3, .own 7 5 es.length), (4, .c (.i k))] [(7, .row 5 (partly Entry.enc [.i 0, .i 0, .i 0, .i 0, .i 0] es k))]) (fun k => es.length - k) 0 (by simp) (by apply le_of <;> simp [AV.refs1, AV.ref0, Obj.refs1, partly_zero]) ?_
  rintro k hk
  rcases Nat.lt_or_ge k es.length with hlt | hge
  · obtain ⟨e, he⟩ : ∃ e, es[k]? = some e := ⟨_, List.getElem?_eq_getElem hlt⟩
    have hs := partly_set (f := Entry.enc) (z := [.i 0, .i 0, .i 0, .i 0, .i 0]) he
    have hd := partly_drop (f := Entry.enc) (z := [.i 0, .i 0, .i 0, .i 0, .i 0]) (n := 5) rfl hlt
    simp only [Entry.enc] at hs
    simp -dsimp -implicitDefEqProofs [he, lt_t hlt]
    refine fun _ => call_pure (toEntry_c e) (by simp) rfl ?_
    simp -dsimp -implicitDefEqProofs [lt_t hlt, partly_len hk, hd, hs]
    refine ⟨hlt, inI_succ hlt hlen, k + 1, hlt, by omega, by apply le_of <;> simp [AV.refs1, AV.ref0, Obj.refs1]⟩
  · simp -dsimp -implicitDefEqProofs [lt_f hge]
    intro _
    rw [partly_all hge, List.take_of_length_le (by simp)]
theorem take_eq_succ {α : Type} {l m : List α} {k : Nat} {e f : α} (he : l[k]? = some e) (hf : m[k]? = some f) (h : l.take k = m.take k) (hef : e = f) : l.take (k + 1) = m.take (k + 1) := by
  rw [List.take_succ, List.take_succ, he, hf, h, hef]
theorem ne_of_get {α : Type} {l m : List α} {k : Nat} {e f : α} (he : l[k]? = some e) (hf : m[k]? = some f) (hef : e ≠ f) : l ≠ m := by
  rintro rfl
  rw [he] at hf
  exact hef (Option.some.inj hf)
theorem eq_of_take {α : Type} {l m : List α} {k : Nat} (hl : l.length ≤ k) (hm : l.length = m.length) (h : l.take k = m.take k) : l = m := by
  rwa [List.take_of_length_le hl, List.take_of_length_le (by omega)] at h
theorem eqEntryS_c (es fs : List Entry) : PureF Tryz.prog n_laws_eqEntryS [.c (.sl 5 (es.map Entry.enc)), .c (.sl 5 (fs.map Entry.enc))] (.c (.b (decide (es = fs)))) := by
  refine pure_of h_laws_eqEntryS (by simp) fun hwf => ?_
  simp -dsimp -implicitDefEqProofs [c_laws_eqEntryS]
  intro hl1 hl2
  refine ⟨fun h e => h (by rw [e]), fun hlen => ?_⟩
  have hlen' : es.length = fs.length := by omega
  refine loop_rule (ι := Nat) (fun k => k ≤ es.length ∧ es.take k = fs.take k) (fun k => stOf [(0, .c (.sl 5 (es.map Entry.enc))), (1, .c (.sl 5 (fs.map Entry.enc))), (5, .c (.i k))] []) (fun k => es.length - k) 0 (by simp) (by apply le_of <;> simp [AV.refs1, AV.ref0, Obj.refs1]) ?_
  rintro k ⟨hk, htk⟩
  rcases Nat.lt_or_ge k es.length with hlt | hge
  · obtain ⟨e, he⟩ : ∃ e, es[k]? = some e := ⟨_, List.getElem?_eq_getElem hlt⟩
    obtain ⟨f, hf⟩ : ∃ f, fs[k]? = some f := ⟨_, List.getElem?_eq_getElem (by omega)⟩
    simp -dsimp -implicitDefEqProofs [he, hf, lt_t hlt, lt_t (hlen' ▸ hlt)]
    intro _
    refine ⟨_, _, eqEntry_c e f, by simp, .inr rfl, ?_⟩
    simp -dsimp -implicitDefEqProofs
    refine ⟨fun h => ne_of_get he hf h, fun h => ⟨inI_succ hlt hl1, k + 1, ⟨hlt, take_eq_succ he hf htk h⟩, by omega, by apply le_of <;> simp [AV.refs1, AV.ref0, Obj.refs1]⟩⟩
  · simp -dsimp -implicitDefEqProofs [lt_f hge]
    intro _
    exact eq_of_take hge hlen' htk
theorem BookOk_spec (es : List Entry) : PureF Tryz.prog n_spec_BookOk [.c (.sl 5 (es.map Entry.enc))] (.c (.b (BookOk es))) := by
  refine pure_of h_spec_BookOk (by simp) fun hwf => ?_
  simp -dsimp -implicitDefEqProofs [c_spec_BookOk]
  refine loop_rule (ι := Nat) (fun k => k ≤ es.length ∧ ∀ e ∈ es.take k, EntryOk e = true) (fun k => stOf [(0, .c (.sl 5 (es.map Entry.enc))), (3, .c (.i k))] []) (fun k => es.length - k) 0 (by simp) (by apply le_of <;> simp [AV.refs1, AV.ref0, Obj.refs1]) ?_
  rintro k ⟨hk, hall⟩
  rcases Nat.lt_or_ge k es.length with hlt | hge
  · obtain ⟨e, he⟩ : ∃ e, es[k]? = some e := ⟨_, List.getElem?_eq_getElem hlt⟩
    simp -dsimp -implicitDefEqProofs [he, lt_t hlt]
    intro hlen
    refine call_lend (EntryOk_spec e) (by simp) rfl ?_
    simp -dsimp -implicitDefEqProofs
    refine ⟨fun h1 => by simp [BookOk, all_false he h1], fun h1 => ?_⟩
    exact ⟨inI_succ hlt hlen, k + 1, ⟨by omega, all_take_succ he hall h1⟩, by omega, by apply le_of <;> simp [AV.refs1, AV.ref0, Obj.refs1]⟩
  · simp -dsimp -implicitDefEqProofs [lt_f hge]
    have := all_of_take hge hall
    simp only [BookOk, this, Bool.and_true]
    intro _
    exact decide_eq_decide.2 (by omega)
abbrev ienc (n : Int) : List C := [.i n]
theorem szS_ok {n : Nat} {left m : Int} (h : szS n left = m) (h0 : 0 ≤ m) : (n : Int) ≤ left ∧ m = left - n := by
  unfold szS at h; split at h <;> omega
theorem szS_le {n : Nat} {left : Int} (h0 : left ≤ 1048576) : szS n left ≤ 1048576 := by
  unfold szS; split <;> omega
theorem szS_neg {n : Nat} {left : Int} (h : szS n left < 0) : szS n left = -1 := by
  unfold szS at *; split at h <;> omega
theorem szIntS_c (es : List Int) (left : Int) (h0 : 0 ≤ left) (h1 : left ≤ 1048576) : PureF Tryz.prog n_laws_szIntS [.c (.sl 1 (es.map ienc)), .c (.i left)] (.c (.i (szS es.length left))) := by
  refine pure_of h_laws_szIntS (by simp) fun hwf => ?_
  simp -dsimp -implicitDefEqProofs [c_laws_szIntS, szS]
  intro hl
  unfold maxLen at hl
  refine ⟨by unfold inI; omega, fun h => ?_, fun h => ?_⟩ <;> intros <;> omega
theorem toIntS_c (es : List Int) (hl : es.length ≤ 1048576) : PureF Tryz.prog n_laws_toIntS [.c (.sl 1 (es.map ienc))] (.c (.sl 1 (es.map ienc))) := by
  refine pure_of h_laws_toIntS (by simp) fun hwf => ?_
  simp -dsimp -implicitDefEqProofs [c_laws_toIntS]
  intro hlen
  refine ⟨by omega, ?_⟩
  refine loop_rule (ι := Nat) (fun k => k ≤ es.length) (fun k => stOf [(0, .c (.sl 1 (es.map ienc))), (3, .own 7 1 es.length), (4, .c (.i k))] [(7, .row 1 (partly ienc [.i 0] es k))]) (fun k => es.length - k) 0 (by simp) (by apply le_of <;> simp [AV.refs1, AV.ref0, Obj.refs1, partly_zero]) ?_
  rintro k hk
  rcases Nat.lt_or_ge k es.length with hlt | hge
  · obtain ⟨e, he⟩ : ∃ e, es[k]? = some e := ⟨_, List.getElem?_eq_getElem hlt⟩
    have hs := partly_set (f := ienc) (z := [.i 0]) he
    have hd : ((partly ienc [.i 0] es k)[k]?.getD []).set 0 (.i e) = [.i e] := by
      have := partly_get (f := ienc) (z := [.i 0]) (n := 1) rfl (fun _ => rfl) hlt
      obtain ⟨x, hx⟩ := List.length_eq_one_iff.1 this
      rw [hx]; rfl
    simp -dsimp -implicitDefEqProofs [he, lt_t hlt]
    intro _
    rw [hd, show (partly ienc [.i 0] es k).set k [.i e] = partly ienc [.i 0] es (k + 1) from hs]
    exact ⟨by rw [partly_len hk]; exact hlt, inI_succ hlt hlen, k + 1, hlt, by omega, by apply le_of <;> simp [AV.refs1, AV.ref0, Obj.refs1]⟩
  · simp -dsimp -implicitDefEqProofs [lt_f hge]
    intro _
    rw [partly_all hge, List.take_of_length_le (by simp)]
theorem eqIntS_c (es fs : List Int) : PureF Tryz.prog n_laws_eqIntS [.c (.sl 1 (es.map ienc)), .c (.sl 1 (fs.map ienc))] (.c (.b (decide (es = fs)))) := by
  refine pure_of h_laws_eqIntS (by simp) fun hwf => ?_
  simp -dsimp -implicitDefEqProofs [c_laws_eqIntS]
  intro hl1 hl2
  refine ⟨fun h e => h (by rw [e]), fun hlen => ?_⟩
  have hlen' : es.length = fs.length := by omega
  refine loop_rule (ι := Nat) (fun k => k ≤ es.length ∧ es.take k = fs.take k) (fun k => stOf [(0, .c (.sl 1 (es.map ienc))), (1, .c (.sl 1 (fs.map ienc))), (5, .c (.i k))] []) (fun k => es.length - k) 0 (by simp) (by apply le_of <;> simp [AV.refs1, AV.ref0, Obj.refs1]) ?_
  rintro k ⟨hk, htk⟩
  rcases Nat.lt_or_ge k es.length with hlt | hge
  · obtain ⟨e, he⟩ : ∃ e, es[k]? = some e := ⟨_, List.getElem?_eq_getElem hlt⟩
    obtain ⟨f, hf⟩ : ∃ f, fs[k]? = some f := ⟨_, List.getElem?_eq_getElem (by omega)⟩
    simp -dsimp -implicitDefEqProofs [he, hf, lt_t hlt, lt_t (hlen' ▸ hlt)]
    intro _
    refine ⟨fun h => ne_of_get he hf h, fun h => ⟨inI_succ hlt hl1, k + 1, ⟨hlt, take_eq_succ he hf htk h⟩, by omega, by apply le_of <;> simp [AV.refs1, AV.ref0, Obj.refs1]⟩⟩
  · simp -dsimp -implicitDefEqProofs [lt_f hge]
    intro _
    exact eq_of_take hge hlen' htk
structure Tariff where
  Base : Int
  PerArea : Int
  PerClass : List Int
  Weights : List Int
  deriving DecidableEq
@[simp] def Tariff.enc (t : Tariff) : List C := [.i t.Base, .i t.PerArea, .sl 1 (t.PerClass.map ienc), .sl 1 (t.Weights.map ienc)]
def Tariff.small (t : Tariff) : Prop := t.PerClass.length ≤ 1048576 ∧ t.Weights.length ≤ 1048576
def szTariff (t : Tariff) (left : Int) : Int := let l := szS t.PerClass.length left; if l < 0 then -1 else szS t.Weights.length l
theorem szTariff_ok {t : Tariff} (h : 0 ≤ szTariff t 1048576) : t.small := by
  unfold szTariff szS at h; simp only at h; unfold Tariff.small
  repeat' split at h
  all_goals omega
theorem szTariff_c (t : Tariff) : PureF Tryz.prog n_laws_szTariff [.agg (t.enc.map .c), .c (.i 1048576)] (.c (.i (szTariff t 1048576))) := by
  refine pure_of h_laws_szTariff (by simp) fun hwf => ?_
  simp -dsimp -implicitDefEqProofs [c_laws_szTariff]
  refine call_lend (szIntS_c t.PerClass 1048576 (by omega) (by omega)) (by simp) rfl ?_
  simp -dsimp -implicitDefEqProofs
  refine ⟨fun h => by simp [szTariff, h], fun h => ?_⟩
  refine call_lend (szIntS_c t.Weights _ h (szS_le (by omega))) (by simp) rfl ?_
  simp -dsimp -implicitDefEqProofs
  have : szTariff t 1048576 = szS t.Weights.length (szS t.PerClass.length 1048576) := by simp [szTariff, Int.not_lt.2 h]
  rw [this]
  exact ⟨fun h => szS_neg h, fun _ => rfl⟩
theorem toTariff_c (t : Tariff) (h : t.small) : PureF Tryz.prog n_laws_toTariff [.agg (t.enc.map .c)] (.agg (t.enc.map .c)) := by
  refine pure_of h_laws_toTariff (by simp) fun hwf => ?_
  simp -dsimp -implicitDefEqProofs [c_laws_toTariff]
  refine call_pure (toIntS_c t.PerClass h.1) (by simp) rfl ?_
  simp -dsimp -implicitDefEqProofs
  refine call_pure (toIntS_c t.Weights h.2) (by simp) rfl ?_
  simp -dsimp -implicitDefEqProofs
theorem eqTariff_c (t u : Tariff) : PureF Tryz.prog n_laws_eqTariff [.agg (t.enc.map .c), .agg (u.enc.map .c)] (.c (.b (decide (t = u)))) := by
  refine pure_of h_laws_eqTariff (by simp) fun hwf => ?_
  obtain ⟨t1, t2, t3, t4⟩ := t
  obtain ⟨u1, u2, u3, u4⟩ := u
  simp -dsimp -implicitDefEqProofs [c_laws_eqTariff, Tariff.mk.injEq]
  refine ⟨fun h => by simp [h], fun h => ⟨fun h1 => by simp [h1], fun h1 => ?_⟩⟩
  refine call_lend (eqIntS_c t3 u3) (by simp) rfl ?_
  simp -dsimp -implicitDefEqProofs
  refine ⟨fun h2 _ _ h3 => absurd h3 h2, fun h2 => ?_⟩
  refine call_lend (eqIntS_c t4 u4) (by simp) rfl ?_
  simp -dsimp -implicitDefEqProofs
  simp [h, h1, h2]
/-! Sums. -/
theorem sum_take {l : List Int} {k : Nat} {x : Int} (h : l[k]? = some x) : (l.take (k + 1)).sum = (l.take k).sum + x := by
  rw [List.take_succ, h]; simp

def sumTo (l : List Int) (k : Nat) : Int := (l.take k).sum
theorem sumTo_zero {l : List Int} : sumTo l 0 = 0 := rfl
theorem sumTo_succ {l : List Int} {k : Nat} {x : Int} (h : l[k]? = some x) : sumTo l (k + 1) = sumTo l k + x := sum_take h
theorem sumTo_all {l : List Int} {k : Nat} (h : l.length ≤ k) : sumTo l k = l.sum := by unfold sumTo; rw [List.take_of_length_le h]
def TariffOk (t : Tariff) : Bool := inRange t.Base 0 10000 && inRange t.PerArea 0 100 && decide (t.PerClass.length = 3) && inRange t.Weights.length 1 11 &&
  t.PerClass.all (fun n => inRange n 0 10000) && t.Weights.all (fun n => inRange n 0 1000) && decide (0 < t.Weights.sum)
theorem inRange_iff {n a b : Int} : inRange n a b = true ↔ a ≤ n ∧ n ≤ b := by simp [inRange]
theorem inRange_not {n a b : Int} : inRange n a b = false ↔ n < a ∨ b < n := by
  simp only [inRange, Bool.and_eq_false_iff, decide_eq_false_iff_not]; omega
theorem sum_bound : ∀ {l : List Int} {b : Int}, (∀ x ∈ l, inRange x 0 b = true) → 0 ≤ l.sum ∧ l.sum ≤ b * l.length
  | [], b, _ => by simp
  | x :: l, b, h => by
    have h1 := sum_bound (l := l) (b := b) fun y hy => h y (by simp [hy])
    have h2 := inRange_iff.1 (h x (by simp))
    simp only [List.sum_cons, List.length_cons, Int.natCast_add, Int.natCast_one, Int.mul_add, Int.mul_one]
    omega
theorem TariffOk_impl (t : Tariff) : PureF Tryz.prog n_impl_TariffOk [.agg (t.enc.map .c)] (.c (.b (TariffOk t))) := by
  refine pure_of h_impl_TariffOk (by simp) fun hwf => ?_
  simp -dsimp -implicitDefEqProofs [c_impl_TariffOk]
  refine call_lend (inRange_impl t.Base 0 10000) (by simp) rfl ?_
  simp -dsimp -implicitDefEqProofs
  refine ⟨fun h1 => ?_, fun h1 => by simp [TariffOk, h1]⟩
  refine call_lend (inRange_impl t.PerArea 0 100) (by simp) rfl ?_
  simp -dsimp -implicitDefEqProofs
  refine ⟨fun h2 => ?_, fun h2 => by simp [TariffOk, h2]⟩
  intro hc
  refine ⟨fun h3 hw => ⟨fun h4 _ => ⟨fun h5 => ?_, fun h5 _ => ?_⟩, fun h4 => ?_⟩, fun h3 => ?_⟩
  · have : inRange t.Weights.length 1 11 = false := inRange_not.2 (by omega)
    simp [TariffOk, this]
  · have h3' : t.PerClass.length = 3 := by omega
    have h6 : inRange t.Weights.length 1 11 = true := inRange_iff.2 (by omega)
    refine loop_rule (ι := Nat) (fun k => k ≤ t.PerClass.length ∧ ∀ n ∈ t.PerClass.take k, inRange n 0 10000 = true) (fun k => stOf [(1, .box 1 0), (37, .c (.sl 1 (t.PerClass.map ienc))), (38, .c (.i t.PerClass.length)), (39, .c (.i k))] [(1, .box (t.enc.map .c))]) (fun k => t.PerClass.length - k) 0 (by simp) (by apply le_of <;> simp [AV.refs1, AV.ref0, Obj.refs1]) ?_
    rintro k ⟨hk, hall⟩
    rcases Nat.lt_or_ge k t.PerClass.length with hlt | hge
    · obtain ⟨e, he⟩ : ∃ e, t.PerClass[k]? = some e := ⟨_, List.getElem?_eq_getElem hlt⟩
      simp -dsimp -implicitDefEqProofs [he, lt_t hlt]
      refine call_lend (inRange_impl e 0 10000) (by simp) rfl ?_
      simp -dsimp -implicitDefEqProofs
      refine ⟨fun h1 => by simp [TariffOk, all_false (p := fun n => inRange n 0 10000) he h1], fun h1 => ?_⟩
      exact ⟨inI_succ hlt hc, k + 1, ⟨by omega, all_take_succ (p := fun n => inRange n 0 10000) he hall h1⟩, by omega, by apply le_of <;> simp [AV.refs1, AV.ref0, Obj.refs1]⟩
    · have h7 := all_of_take (p := fun n => inRange n 0 10000) hge hall
      simp -dsimp -implicitDefEqProofs [lt_f hge]
      intro _
      refine loop_rule (ι := Nat) (fun k => k ≤ t.Weights.length ∧ ∀ n ∈ t.Weights.take k, inRange n 0 1000 = true) (fun k => stOf [(5, .c (.i (t.Weights.take k).sum)), (48, .c (.sl 1 (t.Weights.map ienc))), (49, .c (.i t.Weights.length)), (50, .c (.i k))] []) (fun k => t.Weights.length - k) 0 (by simp) (by apply le_of <;> simp [AV.refs1, AV.ref0, Obj.refs1]) ?_
      rintro k ⟨hk, hall⟩
      rcases Nat.lt_or_ge k t.Weights.length with hlt | hge
      · obtain ⟨e, he⟩ : ∃ e, t.Weights[k]? = some e := ⟨_, List.getElem?_eq_getElem hlt⟩
        simp -dsimp -implicitDefEqProofs [he, lt_t hlt]
        refine call_lend (inRange_impl e 0 1000) (by simp) rfl ?_
        simp -dsimp -implicitDefEqProofs [he, lt_t hlt]
        refine ⟨fun h1 => by simp [TariffOk, all_false (p := fun n => inRange n 0 1000) he h1], fun h1 => ?_⟩
        have hs := sum_bound hall
        have hx := inRange_iff.1 h1
        have hl : (t.Weights.take k).length ≤ 11 := by simp; omega
        exact ⟨by unfold inI; omega, inI_succ hlt hw, k + 1, ⟨by omega, all_take_succ (p := fun n => inRange n 0 1000) he hall h1⟩, by omega, by apply le_of <;> simp [AV.refs1, AV.ref0, Obj.refs1, sum_take he]⟩
      · have h8 := all_of_take (p := fun n => inRange n 0 1000) hge hall
        simp -dsimp -implicitDefEqProofs [lt_f hge]
        rw [List.take_of_length_le hge]
        simp [TariffOk, h1, h2, h3', h6, h7, h8]
  · have : inRange t.Weights.length 1 11 = false := inRange_not.2 (by omega)
    simp [TariffOk, this]
  · have : ¬ t.PerClass.length = 3 := by omega
    simp [TariffOk, this]
theorem TariffOk_spec (t : Tariff) : PureF Tryz.prog n_spec_TariffOk [.agg (t.enc.map .c)] (.c (.b (TariffOk t))) := by
  refine pure_of h_spec_TariffOk (by simp) fun hwf => ?_
  simp -dsimp -implicitDefEqProofs [c_spec_TariffOk]
  refine call_lend (inRange_spec t.Base 0 10000) (by simp) rfl ?_
  simp -dsimp -implicitDefEqProofs
  refine ⟨fun h1 => ?_, fun h1 => by simp [TariffOk, h1]⟩
  refine call_lend (inRange_spec t.PerArea 0 100) (by simp) rfl ?_
  simp -dsimp -implicitDefEqProofs
  refine ⟨fun h2 => ?_, fun h2 => by simp [TariffOk, h2]⟩
  intro hc
  refine ⟨fun h3 hw => ?_, fun h3 => ?_⟩
  · have h3' : t.PerClass.length = 3 := by omega
    refine call_lend (inRange_spec t.Weights.length 1 11) (by simp) rfl ?_
    simp -dsimp -implicitDefEqProofs
    refine ⟨fun h6 => ?_, fun h6 => ?_⟩
    · simp [TariffOk, h6]
    have h6' := inRange_iff.1 h6
    refine loop_rule (ι := Nat) (fun k => k ≤ t.PerClass.length ∧ ∀ n ∈ t.PerClass.take k, inRange n 0 10000 = true) (fun k => stOf [(1, .box 1 0), (3, .c (.i k))] [(1, .box (t.enc.map .c))]) (fun k => t.PerClass.length - k) 0 (by simp) (by apply le_of <;> simp [AV.refs1, AV.ref0, Obj.refs1]) ?_
    rintro k ⟨hk, hall⟩
    rcases Nat.lt_or_ge k t.PerClass.length with hlt | hge
    · obtain ⟨e, he⟩ : ∃ e, t.PerClass[k]? = some e := ⟨_, List.getElem?_eq_getElem hlt⟩
      have hlt3 : ((k : Int) < 3) = True := by simp; omega
      simp -dsimp -implicitDefEqProofs [he, hlt3, lt_t hlt]
      refine call_lend (inRange_spec e 0 10000) (by simp) rfl ?_
      simp -dsimp -implicitDefEqProofs
      refine ⟨fun h1 => by simp [TariffOk, all_false (p := fun n => inRange n 0 10000) he h1], fun h1 => ?_⟩
      exact ⟨inI_succ hlt hc, k + 1, ⟨by omega, all_take_succ (p := fun n => inRange n 0 10000) he hall h1⟩, by omega, by apply le_of <;> simp [AV.refs1, AV.ref0, Obj.refs1]⟩
    · have h7 := all_of_take (p := fun n => inRange n 0 10000) hge hall
      have hge3 : ((k : Int) < 3) = False := by simp; omega
      simp -dsimp -implicitDefEqProofs [hge3]
      refine loop_rule (ι := Nat) (fun k => k ≤ t.Weights.length ∧ ∀ n ∈ t.Weights.take k, inRange n 0 1000 = true) (fun k => stOf [(1, .box 1 0), (4, .c (.i (t.Weights.take k).sum)), (5, .c (.i k))] [(1, .box (t.enc.map .c))]) (fun k => t.Weights.length - k) 0 (by simp) (by apply le_of <;> simp [AV.refs1, AV.ref0, Obj.refs1]) ?_
      rintro k ⟨hk, hall⟩
      rcases Nat.lt_or_ge k t.Weights.length with hlt | hge
      · obtain ⟨e, he⟩ : ∃ e, t.Weights[k]? = some e := ⟨_, List.getElem?_eq_getElem hlt⟩
        simp -dsimp -implicitDefEqProofs [he, lt_t hlt]
        intro _
        refine call_lend (inRange_spec e 0 1000) (by simp) rfl ?_
        simp -dsimp -implicitDefEqProofs [he, lt_t hlt]
        refine ⟨fun h1 => by simp [TariffOk, all_false (p := fun n => inRange n 0 1000) he h1], fun h1 => ?_⟩
        have hs := sum_bound hall
        have hx := inRange_iff.1 h1
        have hl : (t.Weights.take k).length ≤ 11 := by simp; omega
        exact ⟨by unfold inI; omega, inI_succ hlt hw, k + 1, ⟨by omega, all_take_succ (p := fun n => inRange n 0 1000) he hall h1⟩, by omega, by apply le_of <;> simp [AV.refs1, AV.ref0, Obj.refs1, sum_take he]⟩
      · have h8 := all_of_take (p := fun n => inRange n 0 1000) hge hall
        simp -dsimp -implicitDefEqProofs [lt_f hge]
        rw [List.take_of_length_le hge]
        simp [TariffOk, h1, h2, h3', h6, h7, h8]
  · have : ¬ t.PerClass.length = 3 := by omega
    simp [TariffOk, this]
end Go.Proofs.YtpcopekamgapaaaGreat
