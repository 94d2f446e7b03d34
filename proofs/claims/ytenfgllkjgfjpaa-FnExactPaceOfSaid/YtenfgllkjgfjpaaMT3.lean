/- Contracts of functions of this seat: what each answers, as plain Lean. -/
import Derived.Test.YtenfgllkjgfjpaaMT2
set_option linter.all false
namespace Go.Proofs.Ytenfgllkjgfjpaa
open Go.RowKit

theorem get_map {α : Type} {f : α → List C} {l : List α} {k : Nat} {e : α} (h : l[k]? = some e) : (l.map f)[k]? = some (f e) := by simp [h]

/-- Rows so far copied, the rest zero. -/
def partly {α : Type} (f : α → List C) (z : List C) (es : List α) (k : Nat) : List (List C) := (es.take k).map f ++ List.replicate (es.length - k) z
theorem partly_len {α : Type} {f : α → List C} {z : List C} {es : List α} {k : Nat} (h : k ≤ es.length) : (partly f z es k).length = es.length := by
  simp [partly]; omega
theorem partly_zero {α : Type} {f : α → List C} {z : List C} {es : List α} : partly f z es 0 = List.replicate es.length z := by simp [partly]
theorem partly_all {α : Type} {f : α → List C} {z : List C} {es : List α} {k : Nat} (h : es.length ≤ k) : partly f z es k = es.map f := by
  simp [partly, List.take_of_length_le h, Nat.sub_eq_zero_of_le h]
theorem partly_set {α : Type} {f : α → List C} {z : List C} {es : List α} {k : Nat} {e : α} (h : es[k]? = some e) : (partly f z es k).set k (f e) = partly f z es (k + 1) := by
  have hk := (List.getElem?_eq_some_iff.1 h).1
  have he := (List.getElem?_eq_some_iff.1 h).2
  unfold partly
  rw [List.set_append_right _ _ (by simp; omega)]
  have h1 : ((es.take k).map f).length = k := by simp; omega
  rw [h1, Nat.sub_self, show es.length - k = (es.length - (k + 1)) + 1 by omega, List.replicate_succ, List.set_cons_zero, List.take_succ_eq_append_getElem hk, he]
  simp
theorem partly_get {α : Type} {f : α → List C} {z : List C} {es : List α} {k n : Nat} (hz : z.length = n) (hf : ∀ e, (f e).length = n) (h : k < es.length) : ((partly f z es k)[k]?.getD []).length = n := by
  unfold partly
  rw [List.getElem?_append_right (by simp; omega)]
  have h1 : ((es.take k).map f).length = k := by simp; omega
  rw [h1, Nat.sub_self, List.getElem?_replicate, if_pos (by omega)]
  exact hz

theorem partly_drop {α : Type} {f : α → List C} {z : List C} {es : List α} {k n : Nat} (hz : z.length = n) (h : k < es.length) : ((partly f z es k)[k]?.getD []).drop n = [] := by
  apply List.drop_eq_nil_of_le
  unfold partly
  rw [List.getElem?_append_right (by simp; omega)]
  have h1 : ((es.take k).map f).length = k := by simp; omega
  rw [h1, Nat.sub_self, List.getElem?_replicate, if_pos (by omega)]
  simp [hz]
theorem inI_succ {k n : Nat} (hk : k < n) (h : n ≤ maxLen) : inI ((k : Int) + 1) := by unfold maxLen at h; unfold inI; omega

def szS (n : Nat) (left : Int) : Int := if left - n < 0 then -1 else left - n
theorem szEntryS_c (es : List Entry) : PureF Try.prog n_laws_szEntryS [.c (.sl 5 (es.map Entry.enc)), .c (.i 1048576)] (.c (.i (szS es.length 1048576))) := by
  refine pure_of h_laws_szEntryS (by simp) fun hwf => ?_
  simp -dsimp -implicitDefEqProofs [c_laws_szEntryS, szS]
  intro hl
  unfold maxLen at hl
  refine ⟨by unfold inI; omega, fun h => ?_, fun h => ?_⟩ <;> intros <;> omega
theorem toEntryS_c (es : List Entry) (hl : es.length ≤ 1048576) : PureF Try.prog n_laws_toEntryS [.c (.sl 5 (es.map Entry.enc))] (.c (.sl 5 (es.map Entry.enc))) := by
  refine pure_of h_laws_toEntryS (by simp) fun hwf => ?_
  simp -dsimp -implicitDefEqProofs [c_laws_toEntryS]
  intro hlen
  refine ⟨by omega, ?_⟩
  refine loop_rule (ι := Nat) (fun k => k ≤ es.length) (fun k => stOf [(0, .c (.sl 5 (es.map Entry.enc))), (3, .own 7 5 es.length), (4, .c (.i k))] [(7, .row 5 (partly Entry.enc [.i 0, .i 0, .i 0, .i 0, .i 0] es k))]) (fun k => es.length - k) 0 (by simp) (by apply le_of <;> simp [AV.refs1, AV.ref0, Obj.refs1, partly_zero]) ?_
  rintro k hk
  rcases Nat.lt_or_ge k es.length with hlt | hge
  · obtain ⟨e, he⟩ : ∃ e, es[k]? = some e := ⟨_, List.getElem?_eq_getElem hlt⟩
    have hs := partly_set (f := Entry.enc) (z := [.i 0, .i 0, .i 0, .i 0, .i 0]) he
    have hd := partly_drop (f := Entry.enc) (z := [.i 0, .i 0, .i 0, .i 0, .i 0]) (n := 5) rfl hlt
    simp only [Entry.enc] at hs
    simp -dsimp -implicitDefEqProofs [he, lt_t hlt]
    refine fun _ => call_pure (toEntry_c e) (by simp) rfl ?_
    simp -dsimp -implicitDefEqProofs [lt_t hlt, partly_len hk, hd, hs]
    refine ⟨hlt, inI_succ hlt hlen, k + 1, hlt, by omega, by apply le_of <;> simp [AV.refs1, AV.ref0, Obj.refs1]⟩
  · simp -dsimp -implicitDefEqProofs [lt_f hge]
    intro _
    rw [partly_all hge, List.take_of_length_le (by simp)]
theorem take_eq_succ {α : Type} {l m : List α} {k : Nat} {e f : α} (he : l[k]? = some e) (hf : m[k]? = some f) (h : l.take k = m.take k) (hef : e = f) : l.take (k + 1) = m.take (k + 1) := by
  rw [List.take_succ, List.take_succ, he, hf, h, hef]
theorem ne_of_get {α : Type} {l m : List α} {k : Nat} {e f : α} (he : l[k]? = some e) (hf : m[k]? = some f) (hef : e ≠ f) : l ≠ m := by
  rintro rfl
  rw [he] at hf
  exact hef (Option.some.inj hf)
theorem eq_of_take {α : Type} {l m : List α} {k : Nat} (hl : l.length ≤ k) (hm : l.length = m.length) (h : l.take k = m.take k) : l = m := by
  rwa [List.take_of_length_le hl, List.take_of_length_le (by omega)] at h
theorem eqEntryS_c (es fs : List Entry) : PureF Try.prog n_laws_eqEntryS [.c (.sl 5 (es.map Entry.enc)), .c (.sl 5 (fs.map Entry.enc))] (.c (.b (decide (es = fs)))) := by
  refine pure_of h_laws_eqEntryS (by simp) fun hwf => ?_
  simp -dsimp -implicitDefEqProofs [c_laws_eqEntryS]
  intro hl1 hl2
  refine ⟨fun h e => h (by rw [e]), fun hlen => ?_⟩
  have hlen' : es.length = fs.length := by omega
  refine loop_rule (ι := Nat) (fun k => k ≤ es.length ∧ es.take k = fs.take k) (fun k => stOf [(0, .c (.sl 5 (es.map Entry.enc))), (1, .c (.sl 5 (fs.map Entry.enc))), (5, .c (.i k))] []) (fun k => es.length - k) 0 (by simp) (by apply le_of <;> simp [AV.refs1, AV.ref0, Obj.refs1]) ?_
  rintro k ⟨hk, htk⟩
  rcases Nat.lt_or_ge k es.length with hlt | hge
  · obtain ⟨e, he⟩ : ∃ e, es[k]? = some e := ⟨_, List.getElem?_eq_getElem hlt⟩
    obtain ⟨f, hf⟩ : ∃ f, fs[k]? = some f := ⟨_, List.getElem?_eq_getElem (by omega)⟩
    simp -dsimp -implicitDefEqProofs [he, hf, lt_t hlt, lt_t (hlen' ▸ hlt)]
    intro _
    refine ⟨_, _, eqEntry_c e f, by simp, .inr rfl, ?_⟩
    simp -dsimp -implicitDefEqProofs
    refine ⟨fun h => ne_of_get he hf h, fun h => ⟨inI_succ hlt hl1, k + 1, ⟨hlt, take_eq_succ he hf htk h⟩, by omega, by apply le_of <;> simp [AV.refs1, AV.ref0, Obj.refs1]⟩⟩
  · simp -dsimp -implicitDefEqProofs [lt_f hge]
    intro _
    exact eq_of_take hge hlen' htk
theorem BookOk_spec (es : List Entry) : PureF Try.prog n_spec_BookOk [.c (.sl 5 (es.map Entry.enc))] (.c (.b (BookOk es))) := by
  refine pure_of h_spec_BookOk (by simp) fun hwf => ?_
  simp -dsimp -implicitDefEqProofs [c_spec_BookOk]
  refine loop_rule (ι := Nat) (fun k => k ≤ es.length ∧ ∀ e ∈ es.take k, EntryOk e = true) (fun k => stOf [(0, .c (.sl 5 (es.map Entry.enc))), (3, .c (.i k))] []) (fun k => es.length - k) 0 (by simp) (by apply le_of <;> simp [AV.refs1, AV.ref0, Obj.refs1]) ?_
  rintro k ⟨hk, hall⟩
  rcases Nat.lt_or_ge k es.length with hlt | hge
  · obtain ⟨e, he⟩ : ∃ e, es[k]? = some e := ⟨_, List.getElem?_eq_getElem hlt⟩
    simp -dsimp -implicitDefEqProofs [he, lt_t hlt]
    intro hlen
    refine call_lend (EntryOk_spec e) (by simp) rfl ?_
    simp -dsimp -implicitDefEqProofs
    refine ⟨fun h1 => by simp [BookOk, all_false he h1], fun h1 => ?_⟩
    exact ⟨inI_succ hlt hlen, k + 1, ⟨by omega, all_take_succ he hall h1⟩, by omega, by apply le_of <;> simp [AV.refs1, AV.ref0, Obj.refs1]⟩
  · simp -dsimp -implicitDefEqProofs [lt_f hge]
    have := all_of_take hge hall
    simp only [BookOk, this, Bool.and_true]
    intro _
    exact decide_eq_decide.2 (by omega)
theorem FnExactBookOk_c (es : List Entry) : PureF Try.prog n_laws_FnExactBookOk [.c (.sl 5 (es.map Entry.enc))] (.c (.b true)) := by
  refine pure_of h_laws_FnExactBookOk (by simp) fun hwf => ?_
  simp -dsimp -implicitDefEqProofs [c_laws_FnExactBookOk]
  refine call_lend (szEntryS_c es) (by simp) rfl ?_
  simp -dsimp -implicitDefEqProofs
  intro hsz
  have hl : es.length ≤ 1048576 := by unfold szS at hsz; split at hsz <;> omega
  refine call_pure (toEntryS_c es hl) (by simp) rfl ?_
  simp -dsimp -implicitDefEqProofs
  refine call_lend (BookOk_spec es) (by simp) rfl ?_
  simp -dsimp -implicitDefEqProofs
  refine call_pure (toEntryS_c es hl) (by simp) rfl ?_
  simp -dsimp -implicitDefEqProofs
  refine call_lend (BookOk_impl es) (by simp) rfl ?_
  simp -dsimp -implicitDefEqProofs
  refine call_pure (toEntryS_c es hl) (by simp) rfl ?_
  simp -dsimp -implicitDefEqProofs
  refine call_lend (eqEntryS_c es es) (by simp) rfl ?_
  simp -dsimp -implicitDefEqProofs

end Go.Proofs.Ytenfgllkjgfjpaa
