/- Contracts of functions of this seat: what each answers, as plain Lean. -/
import Derived.Test.YtfmgadchjiplmaaMT1
import Derived.Test.YtfmgadchjiplmaaMA6
import Derived.Test.YtfmgadchjiplmaaMCode2
set_option linter.all false
namespace Go.Proofs.Ytfmgadchjiplmaa
open Go.RowKit

/-! Marks. -/
/-- The rows of which the first i are marked, from k on; each takes c numbers. -/
def marked (mk : Int → List C) (c : Int) (rows : List (List C)) (k : Int) (i : Nat) : List (List C) := (List.range i).map (fun (j : Nat) => mk (k + c * j)) ++ rows.drop i
theorem marked_zero {mk : Int → List C} {c : Int} {rows : List (List C)} {k : Int} : marked mk c rows k 0 = rows := by simp [marked]
theorem marked_len {mk : Int → List C} {c : Int} {rows : List (List C)} {k : Int} {i : Nat} (h : i ≤ rows.length) : (marked mk c rows k i).length = rows.length := by simp [marked]; omega
theorem marked_all {mk : Int → List C} {c : Int} {rows : List (List C)} {k : Int} {i : Nat} (h : i = rows.length) : marked mk c rows k i = marked mk c [] k rows.length := by subst h; simp [marked]
theorem marked_get {mk : Int → List C} {c : Int} {rows : List (List C)} {k : Int} {i : Nat} {r : List C} (h : rows[i]? = some r) : (marked mk c rows k i)[i]? = some r := by
  unfold marked
  rw [List.getElem?_append_right (by simp)]
  simpa using h
theorem marked_set {mk : Int → List C} {c : Int} {rows : List (List C)} {k : Int} {i : Nat} (h : i < rows.length) : (marked mk c rows k i).set i (mk (k + c * i)) = marked mk c rows k (i + 1) := by
  unfold marked
  rw [List.set_append_right _ _ (by simp), List.length_map, List.length_range, Nat.sub_self, List.drop_eq_getElem_cons h, List.set_cons_zero, List.range_succ, List.map_append, List.append_assoc]
  rfl
theorem marked_at {mk : Int → List C} {c : Int} {k : Int} {n i : Nat} (h : i < n) : (marked mk c [] k n)[i]? = some (mk (k + c * i)) := by
  unfold marked
  simp [h]
theorem marked_n {mk : Int → List C} {c : Int} {k : Int} {n : Nat} : (marked mk c [] k n).length = n := by simp [marked]
theorem take_marked {mk : Int → List C} {c : Int} {k : Int} {n : Nat} : (marked mk c [] k n).take n = marked mk c [] k n := List.take_of_length_le (by rw [marked_n]; exact Nat.le_refl _)
theorem toIntS_o (es : List Int) (hl : es.length ≤ 1048576) : OwnF Try.prog n_laws_toIntS [.c (.sl 1 (es.map ienc))] (.c (.ow 1 (es.map ienc))) := by
  refine own_of h_laws_toIntS (by simp) fun hwf => ?_
  simp -dsimp -implicitDefEqProofs [c_laws_toIntS]
  intro hlen
  refine ⟨by omega, ?_⟩
  refine loop_rule (ι := Nat) (fun k => k ≤ es.length) (fun k => stOf [(0, .c (.sl 1 (es.map ienc))), (3, .own 7 1 es.length), (4, .c (.i k))] [(7, .row 1 (partly ienc [.i 0] es k))]) (fun k => es.length - k) 0 (by simp) (by apply le_of <;> simp [AV.refs1, AV.ref0, Obj.refs1, partly_zero]) ?_
  rintro k hk
  rcases Nat.lt_or_ge k es.length with hlt | hge
  · obtain ⟨e, he⟩ : ∃ e, es[k]? = some e := ⟨_, List.getElem?_eq_getElem hlt⟩
    have hs := partly_set (f := ienc) (z := [.i 0]) he
    have hd : ((partly ienc [.i 0] es k)[k]?.getD []).set 0 (.i e) = [.i e] := by
      have := partly_get (f := ienc) (z := [.i 0]) (n := 1) rfl (fun _ => rfl) hlt
      obtain ⟨x, hx⟩ := List.length_eq_one_iff.1 this
      rw [hx]; rfl
    simp -dsimp -implicitDefEqProofs [he, lt_t hlt]
    intro _
    rw [hd, show (partly ienc [.i 0] es k).set k [.i e] = partly ienc [.i 0] es (k + 1) from hs]
    exact ⟨by rw [partly_len hk]; exact hlt, inI_succ hlt hlen, k + 1, hlt, by omega, by apply le_of <;> simp [AV.refs1, AV.ref0, Obj.refs1]⟩
  · simp -dsimp -implicitDefEqProofs [lt_f hge]
    intro _
    rw [partly_all hge, List.take_of_length_le (by simp)]
theorem markIntS_c (xs : List Int) (k : Int) (h0 : 0 ≤ k) (h1 : k + xs.length ≤ 8000000000000000000) :
    InF Try.prog n_laws_markIntS (.c (cw 1 (xs.map ienc))) (.c (cw 1 (marked ienc 1 [] k xs.length))) [.c (.i k)] (.c (.i (k + xs.length))) := by
  rcases Nat.eq_zero_or_pos xs.length with hx | hx
  · have : xs = [] := List.length_eq_zero_iff.1 hx
    subst this
    refine in_of h_laws_markIntS (by simp) (by simp) rfl fun hwf => ?_
    simp -dsimp -implicitDefEqProofs [c_laws_markIntS, marked]
    refine loop_rule (ι := Unit) (fun _ => True) (fun _ => stOf [(0, .c (.sl 1 [])), (1, .c (.i k)), (5, .c (.i 0)), (1000000, .c (.sl 1 []))] []) (fun _ => 0) () trivial (by apply le_of <;> simp [AV.refs1, AV.ref0, Obj.refs1]) ?_
    rintro _ _
    simp -dsimp -implicitDefEqProofs
  · rw [cw_pos (by simpa using hx), cw_pos (by rw [marked_n]; exact hx)]
    refine in_of h_laws_markIntS (by simp) (by simp) rfl fun hwf => ?_
    simp -dsimp -implicitDefEqProofs [c_laws_markIntS]
    refine loop_rule (ι := Nat) (fun i => i ≤ xs.length) (fun i => stOf [(0, .own 0 1 xs.length), (1, .c (.i (k + i))), (5, .c (.i i)), (1000000, .own 0 1 xs.length)] [(0, .row 1 (marked ienc 1 (xs.map ienc) k i))]) (fun i => xs.length - i) 0 (by simp) (by apply le_of <;> simp [AV.refs1, AV.ref0, Obj.refs1, marked_zero]) ?_
    rintro i hi
    rcases Nat.lt_or_ge i xs.length with hlt | hge
    · obtain ⟨e, he⟩ : ∃ e, xs[i]? = some e := ⟨_, List.getElem?_eq_getElem hlt⟩
      have hg := marked_get (mk := ienc) (c := 1) (k := k) (rows := xs.map ienc) (i := i) (r := [.i e]) (by simp [he])
      have hl := marked_len (mk := ienc) (c := 1) (k := k) (rows := xs.map ienc) (i := i) (by simpa using hi)
      have hs := marked_set (mk := ienc) (c := 1) (k := k) (rows := xs.map ienc) (i := i) (by simpa using hlt)
      rw [List.length_map] at hl
      simp only [Int.one_mul, ienc] at hs
      simp -dsimp -implicitDefEqProofs [lt_t hlt, hg, hl]
      intro hlen
      refine ⟨hlt, by unfold inI; omega, by unfold inI; omega, i + 1, hlt, by omega, ?_⟩
      apply le_of <;> simp [AV.refs1, AV.ref0, Obj.refs1, hs] <;> omega
    · have : i = xs.length := by omega
      subst this
      simp -dsimp -implicitDefEqProofs
      intro _
      have e := marked_all (mk := ienc) (c := 1) (rows := xs.map ienc) (k := k) (i := xs.length) (by simp)
      rw [e, List.length_map, List.take_of_length_le (by rw [marked_n]; exact Nat.le_refl _)]
theorem heldIntS_c (n : Nat) (k : Int) (h0 : 0 ≤ k) (h1 : k + n ≤ 8000000000000000000) : PureF Try.prog n_laws_heldIntS [.c (.sl 1 (marked ienc 1 [] k n)), .c (.i k)] (.c (.i (k + n))) := by
  refine pure_of h_laws_heldIntS (by simp) fun hwf => ?_
  simp -dsimp -implicitDefEqProofs [c_laws_heldIntS]
  refine loop_rule (ι := Nat) (fun i => i ≤ n) (fun i => stOf [(0, .c (.sl 1 (marked ienc 1 [] k n))), (1, .c (.i (k + i))), (5, .c (.i i))] []) (fun i => n - i) 0 (by simp) (by apply le_of <;> simp [AV.refs1, AV.ref0, Obj.refs1]) ?_
  rintro i hi
  rcases Nat.lt_or_ge i n with hlt | hge
  · have hg := marked_at (mk := ienc) (c := 1) (k := k) hlt
    simp only [Int.one_mul] at hg
    simp -dsimp -implicitDefEqProofs [marked_n, lt_t hlt, hg]
    intro hlen
    refine ⟨by unfold inI; omega, by unfold inI; omega, i + 1, hlt, by omega, ?_⟩
    apply le_of <;> simp [AV.refs1, AV.ref0, Obj.refs1] <;> omega
  · have : i = n := by omega
    subst this
    simp -dsimp -implicitDefEqProofs [marked_n]

end Go.Proofs.Ytfmgadchjiplmaa
