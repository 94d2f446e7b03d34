/- Contracts of functions of this seat: what each answers, as plain Lean. -/
import Derived.Test.YtfmgadchjiplmaaMT7
set_option linter.all false
namespace Go.Proofs.Ytfmgadchjiplmaa
open Go.RowKit

theorem toEntryS_o (es : List Entry) (hl : es.length ≤ 1048576) : OwnF Try.prog n_laws_toEntryS [.c (.sl 5 (es.map Entry.enc))] (.c (.ow 5 (es.map Entry.enc))) := by
  refine own_of h_laws_toEntryS (by simp) fun hwf => ?_
  simp -dsimp -implicitDefEqProofs [c_laws_toEntryS]
  intro hlen
  refine ⟨by omega, ?_⟩
  refine loop_rule (ι := Nat) (fun k => k ≤ es.length) (fun k => stOf [(0, .c (.sl 5 (es.map Entry.enc))), (3, .own 7 5 es.length), (4, .c (.i k))] [(7, .row 5 (partly Entry.enc [.i 0, .i 0, .i 0, .i 0, .i 0] es k))]) (fun k => es.length - k) 0 (by simp) (by apply le_of <;> simp [AV.refs1, AV.ref0, Obj.refs1, partly_zero]) ?_
  rintro k hk
  rcases Nat.lt_or_ge k es.length with hlt | hge
  · obtain ⟨e, he⟩ : ∃ e, es[k]? = some e := ⟨_, List.getElem?_eq_getElem hlt⟩
    have hs := partly_set (f := Entry.enc) (z := [.i 0, .i 0, .i 0, .i 0, .i 0]) he
    have hd := partly_drop (f := Entry.enc) (z := [.i 0, .i 0, .i 0, .i 0, .i 0]) (n := 5) rfl hlt
    simp only [Entry.enc] at hs
    simp -dsimp -implicitDefEqProofs [he, lt_t hlt]
    refine fun _ => call_pure (toEntry_c e) (by simp) rfl ?_
    simp -dsimp -implicitDefEqProofs [lt_t hlt, partly_len hk, hd, hs]
    exact ⟨hlt, inI_succ hlt hlen, k + 1, hlt, by omega, by apply le_of <;> simp [AV.refs1, AV.ref0, Obj.refs1]⟩
  · simp -dsimp -implicitDefEqProofs [lt_f hge]
    intro _
    rw [partly_all hge, List.take_of_length_le (by simp)]
def mkEn (k : Int) : List C := [.i k, .i (k + 1), .i (k + 1 + 1), .i (k + 1 + 1 + 1), .i (k + 1 + 1 + 1 + 1)]
theorem markEntryS_c (xs : List Entry) (k : Int) (h0 : 0 ≤ k) (h1 : k + 5 * xs.length ≤ 4611686018427387904) :
    InF Try.prog n_laws_markEntryS (.c (cw 5 (xs.map Entry.enc))) (.c (cw 5 (marked mkEn 5 [] k xs.length))) [.c (.i k)] (.c (.i (k + 5 * xs.length))) := by
  rcases Nat.eq_zero_or_pos xs.length with hx | hx
  · have : xs = [] := List.length_eq_zero_iff.1 hx
    subst this
    refine in_of h_laws_markEntryS (by simp) (by simp) rfl fun hwf => ?_
    simp -dsimp -implicitDefEqProofs [c_laws_markEntryS, marked]
    refine loop_rule (ι := Unit) (fun _ => True) (fun _ => stOf [(0, .c (.sl 5 [])), (1, .c (.i k)), (5, .c (.i 0)), (1000000, .c (.sl 5 []))] []) (fun _ => 0) () trivial (by apply le_of <;> simp [AV.refs1, AV.ref0, Obj.refs1]) ?_
    rintro _ _
    simp -dsimp -implicitDefEqProofs
  · rw [cw_pos (by simpa using hx), cw_pos (by rw [marked_n]; exact hx)]
    refine in_of h_laws_markEntryS (by simp) (by simp) rfl fun hwf => ?_
    simp -dsimp -implicitDefEqProofs [c_laws_markEntryS]
    refine loop_rule (ι := Nat) (fun i => i ≤ xs.length) (fun i => stOf [(0, .own 0 5 xs.length), (1, .c (.i (k + 5 * i))), (5, .c (.i i)), (1000000, .own 0 5 xs.length)] [(0, .row 5 (marked mkEn 5 (xs.map Entry.enc) k i))]) (fun i => xs.length - i) 0 (by simp) (by apply le_of <;> simp [AV.refs1, AV.ref0, Obj.refs1, marked_zero]) ?_
    rintro i hi
    rcases Nat.lt_or_ge i xs.length with hlt | hge
    · obtain ⟨e, he⟩ : ∃ e, xs[i]? = some e := ⟨_, List.getElem?_eq_getElem hlt⟩
      have hg := marked_get (mk := mkEn) (c := 5) (k := k) (rows := xs.map Entry.enc) (i := i) (r := e.enc) (by simp [he])
      have hl := marked_len (mk := mkEn) (c := 5) (k := k) (rows := xs.map Entry.enc) (i := i) (by simpa using hi)
      have hs := marked_set (mk := mkEn) (c := 5) (k := k) (rows := xs.map Entry.enc) (i := i) (by simpa using hlt)
      rw [List.length_map] at hl
      generalize marked mkEn 5 (xs.map Entry.enc) k i = M at *
      have hlt2 : i < M.length := by omega
      have hself : ∀ a, (M.set i a)[i]? = some a := fun a => List.getElem?_set_self hlt2
      simp only [mkEn] at hs
      simp only [Entry.enc] at hg
      simp -dsimp -implicitDefEqProofs [lt_t hlt, hg, hl, hlt2, hself]
      intro hlen
      refine ⟨hlt, by unfold inI; omega, hlt, by unfold inI; omega, hlt, by unfold inI; omega, hlt, by unfold inI; omega, hlt, by unfold inI; omega, by unfold inI; omega, i + 1, hlt, by omega, ?_⟩
      apply le_of <;> simp [AV.refs1, AV.ref0, Obj.refs1, hs, hself] <;> omega
    · have : i = xs.length := by omega
      subst this
      simp -dsimp -implicitDefEqProofs
      intro _
      have e := marked_all (mk := mkEn) (c := 5) (rows := xs.map Entry.enc) (k := k) (i := xs.length) (by simp)
      rw [e, List.length_map, List.take_of_length_le (by rw [marked_n]; exact Nat.le_refl _)]
theorem heldEntryS_c (n : Nat) (k : Int) (h0 : 0 ≤ k) (h1 : k + 5 * n ≤ 4611686018427387904) : PureF Try.prog n_laws_heldEntryS [.c (.sl 5 (marked mkEn 5 [] k n)), .c (.i k)] (.c (.i (k + 5 * n))) := by
  refine pure_of h_laws_heldEntryS (by simp) fun hwf => ?_
  simp -dsimp -implicitDefEqProofs [c_laws_heldEntryS]
  refine loop_rule (ι := Nat) (fun i => i ≤ n) (fun i => stOf [(0, .c (.sl 5 (marked mkEn 5 [] k n))), (1, .c (.i (k + 5 * i))), (5, .c (.i i))] []) (fun i => n - i) 0 (by simp) (by apply le_of <;> simp [AV.refs1, AV.ref0, Obj.refs1]) ?_
  rintro i hi
  rcases Nat.lt_or_ge i n with hlt | hge
  · have hg := marked_at (mk := mkEn) (c := 5) (k := k) hlt
    simp only [mkEn] at hg
    simp -dsimp -implicitDefEqProofs [marked_n, lt_t hlt, hg]
    intro hlen
    refine ⟨by unfold inI; omega, by unfold inI; omega, by unfold inI; omega, by unfold inI; omega, by unfold inI; omega, by unfold inI; omega, i + 1, hlt, by omega, ?_⟩
    apply le_of <;> simp [AV.refs1, AV.ref0, Obj.refs1] <;> omega
  · have : i = n := by omega
    subst this
    simp -dsimp -implicitDefEqProofs [marked_n]

end Go.Proofs.Ytfmgadchjiplmaa
