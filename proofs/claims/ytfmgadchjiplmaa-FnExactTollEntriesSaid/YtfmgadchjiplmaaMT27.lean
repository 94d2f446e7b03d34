/- Contracts of functions of this seat: what each answers, as plain Lean. -/
import Derived.Test.YtfmgadchjiplmaaMT26
import Derived.Test.YtfmgadchjiplmaaMA6
import Derived.Test.YtfmgadchjiplmaaMCode5
import Derived.Test.YtfmgadchjiplmaaMCode6
import Derived.Test.YtfmgadchjiplmaaMCode7
set_option linter.all false
namespace Go.Proofs.Ytfmgadchjiplmaa
open Go.RowKit

/-! The sort of the shares' order. -/
def nzenc (x : Nat) : List C := [.i x]
theorem ShareCmp_c (t s : Int) (ws : List Int) (ht : 0 ≤ t ∧ t ≤ 1000000000) (hs : 1 ≤ s) (hs2 : s ≤ 12000000) (hw : ∀ w ∈ ws, 0 ≤ w ∧ w ≤ 1000000) (x y : Nat) (hx : x < ws.length) (hy : y < ws.length) :
    PureF Try.prog n_impl_ShareOut_1 [.c (.i x), .c (.i y), .elt [.i t], .elt [.sl 1 (ws.map ienc)], .elt [.i s]] (.c (.i (vAt (ws.map (remn t s)) y - vAt (ws.map (remn t s)) x))) := by
  obtain ⟨wx, hwx⟩ : ∃ e, ws[x]? = some e := ⟨_, List.getElem?_eq_getElem hx⟩
  obtain ⟨wy, hwy⟩ : ∃ e, ws[y]? = some e := ⟨_, List.getElem?_eq_getElem hy⟩
  have g1 := (List.getElem?_eq_some_iff.1 hwx).2
  have g2 := (List.getElem?_eq_some_iff.1 hwy).2
  have q1 := quota_rng ht hs (hw wx (List.mem_of_getElem? hwx))
  have q2 := quota_rng ht hs (hw wy (List.mem_of_getElem? hwy))
  have e1 : vAt (ws.map (remn t s)) x = remn t s wx := vAt_eq (by simp [hwx])
  have e2 : vAt (ws.map (remn t s)) y = remn t s wy := vAt_eq (by simp [hwy])
  rw [e1, e2]
  unfold remn at *
  refine pure_of h_impl_ShareOut_1 (by simp) fun hwf => ?_
  simp -dsimp -implicitDefEqProofs [c_impl_ShareOut_1, hwx, hwy, g1, g2, hx, hy]
  refine ⟨by unfold inI; omega, by omega, by unfold inI; omega, by unfold inI; omega, by omega, by unfold inI; omega, by unfold inI; omega⟩
def sortO (R : List Int) (i n : Nat) : List Nat := ordI R i ++ List.range' i (n - i)
def sortM (l1 l2 : List Nat) (i n : Nat) : List Nat := (l1 ++ i :: l2) ++ List.range' (i + 1) (n - (i + 1))
theorem sortO_one {R : List Int} {n : Nat} (h : 1 ≤ n) : sortO R 1 n = List.range n := by
  have : ordI R 1 = [0] := rfl
  unfold sortO
  rw [this, List.range_eq_range', show n = (n - 1) + 1 by omega, List.range'_succ]; simp
theorem sortO_all {R : List Int} {n : Nat} : sortO R n n = ordI R n := by simp [sortO]
theorem sortO_go {R : List Int} {i n : Nat} (h : i < n) : sortO R i n = sortM (ordI R i) [] i n := by
  unfold sortO sortM
  rw [show n - i = (n - (i + 1)) + 1 by omega, List.range'_succ]; simp
theorem sortM_end {R : List Int} {i n : Nat} {l1 l2 : List Nat} (h : ordI R (i + 1) = l1 ++ i :: l2) : sortM l1 l2 i n = sortO R (i + 1) n := by unfold sortO sortM; rw [h]
theorem sortM_len {i n : Nat} {l1 l2 : List Nat} (h : l1.length + l2.length = i) (h2 : i < n) : (sortM l1 l2 i n).length = n := by simp [sortM]; omega
theorem sortM_swp {i n y : Nat} {l l2 : List Nat} : (sortM (l ++ [y]) l2 i n)[l.length + 1]? = some i ∧ (sortM (l ++ [y]) l2 i n)[l.length]? = some y ∧
    ((sortM (l ++ [y]) l2 i n).set (l.length + 1) y).set l.length i = sortM l (y :: l2) i n := by
  unfold sortM
  simp only [List.append_assoc, List.cons_append, List.nil_append]
  refine ⟨by simp [List.getElem?_append], by simp [List.getElem?_append], ?_⟩
  simp [List.set_append]
theorem insSort_c (R : List Int) (n : Nat) (hn : 1 ≤ n) (hn2 : n ≤ 1000) (f : Nat) (a b c : List C) (hf : ∃ fn, Try.prog.funcs[f]? = some fn ∧ fn.body.isSome = true ∧ (fn.name != "runtime.NumGoroutine") = true)
    (hc : ∀ x y : Nat, x < n → y < n → PureF Try.prog f [.c (.i x), .c (.i y), .elt a, .elt b, .elt c] (.c (.i (vAt R y - vAt R x)))) :
    InF Try.prog n_slices_insertionSortCmpFunc_int_ (.c (cw 1 ((List.range n).map nzenc))) (.c (cw 1 ((ordI R n).map nzenc))) [.c (.i 0), .c (.i n), .fn f [.elt a, .elt b, .elt c]] (.tup []) := by
  have hon := ordFacts R n
  rw [cw_pos (by simp; omega), cw_pos (by rw [List.length_map, hon.len]; omega)]
  refine in_of h_slices_insertionSortCmpFunc_int_ (by simp) (by simp) rfl fun hwf => ?_
  simp -dsimp -implicitDefEqProofs [c_slices_insertionSortCmpFunc_int_]
  refine ⟨by unfold inI; omega, ?_⟩
  refine loop_rule (ι := Nat) (fun i => 1 ≤ i ∧ i ≤ n) (fun i => stOf [(0, .own 0 1 n), (1, .c (.i 0)), (2, .c (.i n)), (3, .fn f [.elt a, .elt b, .elt c]), (8, .c (.i i)), (1000000, .own 0 1 n)] [(0, .row 1 ((sortO R i n).map nzenc))]) (fun i => n - i) 1 ⟨Nat.le_refl _, hn⟩ (by apply le_of <;> simp [AV.refs1, AV.ref0, Obj.refs1, sortO_one hn]) ?_
  rintro i ⟨hi1, hi⟩
  have fi := ordFacts R i
  rcases Nat.lt_or_ge i n with hlt | hge
  · simp -dsimp -implicitDefEqProofs [lt_t hlt]
    rw [sortO_go hlt]
    have hsuc : ordI R (i + 1) = insI R i (ordI R i) := rfl
    generalize ordI R i = P at *
    refine loop_rule (ι := List Nat × List Nat) (fun p => p.1 ++ p.2 = P ∧ ∀ x ∈ p.2, vAt R x < vAt R i) (fun p => stOf [(0, .own 0 1 n), (1, .c (.i 0)), (2, .c (.i n)), (3, .fn f [.elt a, .elt b, .elt c]), (8, .c (.i i)), (9, .c (.i p.1.length)), (1000000, .own 0 1 n)] [(0, .row 1 ((sortM p.1 p.2 i n).map nzenc))]) (fun p => p.1.length) (P, []) ⟨by simp, by simp⟩ (by apply le_of <;> simp [AV.refs1, AV.ref0, Obj.refs1, fi.len]) ?_
    rintro ⟨l1, l2⟩ ⟨he, h2⟩
    simp only at he h2
    rcases List.eq_nil_or_concat l1 with e | ⟨l, y, e⟩
    · subst e
      have hins := insI_of (R := R) (i := i) fi.pw he h2 (fun l y h => by simp at h)
      rw [← hsuc] at hins
      have hend := sortM_end (n := n) hins
      simp -dsimp -implicitDefEqProofs
      refine ⟨by unfold inI; omega, i + 1, ⟨by omega, by omega⟩, by omega, ?_⟩
      apply le_of <;> simp [AV.refs1, AV.ref0, Obj.refs1, hend]
    · rw [List.concat_eq_append] at e
      subst e
      have hlen := sortM_len (n := n) (l1 := l ++ [y]) (l2 := l2) (by rw [← List.length_append, he, fi.len]) hlt
      have hyP : y < i := fi.lt y (by rw [← he]; simp)
      obtain ⟨w1, w2, w3⟩ := sortM_swp (i := i) (n := n) (y := y) (l := l) (l2 := l2)
      have hend := fun h => sortM_end (n := n) (R := R) (l1 := l ++ [y]) (l2 := l2) (i := i) (by rw [hsuc]; exact insI_of (R := R) (i := i) fi.pw he h2 h)
      have hll : l.length + 1 < n := by rw [← hlen]; exact (List.getElem?_eq_some_iff.1 w1).1
      have e0 : (((l ++ [y]).length : Nat) : Int) = ((l.length + 1 : Nat) : Int) := by simp
      rw [e0]
      generalize sortM (l ++ [y]) l2 i n = M at *
      obtain ⟨m, hm⟩ : ∃ m, m = l.length := ⟨_, rfl⟩
      obtain ⟨j, hj⟩ : ∃ j, j = l.length + 1 := ⟨_, rfl⟩
      rw [← hj] at w1 w3 hll ⊢
      rw [← hm] at w2 w3
      have v1 := (List.getElem?_eq_some_iff.1 w1).2
      have v2 := (List.getElem?_eq_some_iff.1 w2).2
      have k1 : j < M.length := (List.getElem?_eq_some_iff.1 w1).1
      have k2 : m < M.length := (List.getElem?_eq_some_iff.1 w2).1
      have ej : ((j : Int) - 1) = (m : Int) := by omega
      have j0 : 0 < j := by omega
      have mn : m < n := by omega
      have hf' : ∃ fn, Try.prog.funcs[f]? = some fn ∧ fn.body.isSome = true ∧ ¬fn.name = "runtime.NumGoroutine" := by simpa using hf
      simp -dsimp -implicitDefEqProofs [j0, ej, w1, w2, v1, v2, k1, k2, nzenc, hll, mn]
      refine ⟨by unfold inI; omega, hf', ?_⟩
      first
        | refine call_lend (hc i y (by omega) (by omega)) (by simp) rfl ?_
        | refine call_pure (hc i y (by omega) (by omega)) (by simp) rfl ?_
        | refine ⟨_, _, hc i y (by omega) (by omega), by simp, .inr rfl, ?_⟩
        | refine ⟨_, _, hc i y (by omega) (by omega), by simp, .inl rfl, ?_⟩
        | refine callE_pure (hc i y (by omega) (by omega)) (by simp) (.inr rfl) ?_
        | refine callE_pure (hc i y (by omega) (by omega)) (by simp) (.inl rfl) ?_
      have hr2 : ∀ h, ((M.map nzenc).set j [C.i y])[m]'h = [C.i y] := by intro h; rw [List.getElem_set_ne (by omega)]; simp [v2, nzenc]
      have hs3 : ((M.map nzenc).set j [C.i y]).set m [C.i i] = (sortM l (y :: l2) i n).map nzenc := by rw [← w3, List.map_set, List.map_set]; rfl
      simp -dsimp -implicitDefEqProofs [ej, w1, w2, v1, v2, k1, k2, hll, mn, hr2, hs3]
      refine ⟨fun hcm => ?_, fun hcm => ?_⟩
      · refine ⟨by unfold inI; omega, l, y :: l2, ⟨by rw [← he]; simp, fun x hx => ?_⟩, by omega, ?_⟩
        · rcases List.mem_cons.1 hx with hx | hx
          · subst hx; omega
          · exact h2 x hx
        · apply le_of <;> simp [AV.refs1, AV.ref0, Obj.refs1, nzenc, w1, w2, v1, v2, ← hm, hr2, hs3]
      · have hM := hend fun l' y' h => by
          have := (List.append_inj' h rfl).2
          simp at this; subst this; omega
        refine ⟨by unfold inI; omega, i + 1, ⟨by omega, by omega⟩, by omega, ?_⟩
        apply le_of <;> simp [AV.refs1, AV.ref0, Obj.refs1, hM]
  · have : i = n := by omega
    subst this
    simp -dsimp -implicitDefEqProofs
    rw [sortO_all]
    refine ⟨by rw [List.take_of_length_le (by rw [List.length_map, fi.len]; exact Nat.le_refl _)], ?_⟩
    simp [resP]
theorem stable_c (R : List Int) (n : Nat) (hn : 1 ≤ n) (hn2 : n ≤ 19) (f : Nat) (a b c : List C) (hf : ∃ fn, Try.prog.funcs[f]? = some fn ∧ fn.body.isSome = true ∧ (fn.name != "runtime.NumGoroutine") = true)
    (hc : ∀ x y : Nat, x < n → y < n → PureF Try.prog f [.c (.i x), .c (.i y), .elt a, .elt b, .elt c] (.c (.i (vAt R y - vAt R x)))) :
    InF Try.prog n_slices_stableCmpFunc_int_ (.c (cw 1 ((List.range n).map nzenc))) (.c (cw 1 ((ordI R n).map nzenc))) [.c (.i n), .fn f [.elt a, .elt b, .elt c]] (.tup []) := by
  have hon := ordFacts R n
  have hi := insSort_c R n hn (by omega) f a b c hf hc
  have hcw : cw 1 ((ordI R n).map nzenc) = .ow 1 ((ordI R n).map nzenc) := cw_pos (by rw [List.length_map, hon.len]; omega)
  have hcw0 : cw 1 ((List.range n).map nzenc) = .ow 1 ((List.range n).map nzenc) := cw_pos (by simp; omega)
  have n1 : ((20 : Int) ≤ (n : Int)) = False := by simp; omega
  have n2 : ((20 : Int) < (n : Int)) = False := by simp; omega
  have n3 : (20 ≤ n) = False := by simp; omega
  have n4 : (20 < n) = False := by simp; omega
  rw [hcw, hcw0]
  refine in_of h_slices_stableCmpFunc_int_ (by simp) (by simp) rfl fun hwf => ?_
  simp -dsimp -implicitDefEqProofs [c_slices_stableCmpFunc_int_]
  refine loop_rule (ι := Unit) (fun _ => True) (fun _ => stOf [(0, .own 0 1 n), (1, .c (.i n)), (2, .fn f [.elt a, .elt b, .elt c]), (6, .c (.i 20)), (7, .c (.i 0)), (8, .c (.i 20)), (1000000, .own 0 1 n)] [(0, .row 1 ((List.range n).map nzenc))]) (fun _ => 0) () trivial (by apply le_of <;> simp [AV.refs1, AV.ref0, Obj.refs1]) ?_
  rintro _ _
  simp -dsimp -implicitDefEqProofs [n1, n3]
  refine call_in1 (up := some (0, .row 1 ((ordI R n).map nzenc))) hi (by simp) rfl rfl (ioC_row (rows := (List.range n).map nzenc) (by simp) rfl rfl (by simp) (by simp [hon.len]) rfl rfl) ?_
  simp -dsimp -implicitDefEqProofs
  refine loop_rule (ι := Unit) (fun _ => True) (fun _ => stOf [(0, .own 0 1 n), (1, .c (.i n)), (6, .c (.i 20)), (1000000, .own 0 1 n)] [(0, .row 1 ((ordI R n).map nzenc))]) (fun _ => 0) () trivial (by apply le_of <;> simp [AV.refs1, AV.ref0, Obj.refs1]) ?_
  rintro _ _
  simp -dsimp -implicitDefEqProofs [n2, n4]
  exact ⟨by rw [List.take_of_length_le (by rw [List.length_map, hon.len]; exact Nat.le_refl _)], by simp [resP]⟩
theorem sortStable_c (R : List Int) (n : Nat) (hn : 1 ≤ n) (hn2 : n ≤ 19) (f : Nat) (a b c : List C) (hf : ∃ fn, Try.prog.funcs[f]? = some fn ∧ fn.body.isSome = true ∧ (fn.name != "runtime.NumGoroutine") = true)
    (hc : ∀ x y : Nat, x < n → y < n → PureF Try.prog f [.c (.i x), .c (.i y), .elt a, .elt b, .elt c] (.c (.i (vAt R y - vAt R x)))) :
    InF Try.prog n_slices_SortStableFunc___int_int_ (.c (cw 1 ((List.range n).map nzenc))) (.c (cw 1 ((ordI R n).map nzenc))) [.fn f [.elt a, .elt b, .elt c]] (.tup []) := by
  have hon := ordFacts R n
  have hi := stable_c R n hn (by omega) f a b c hf hc
  have hcw : cw 1 ((ordI R n).map nzenc) = .ow 1 ((ordI R n).map nzenc) := cw_pos (by rw [List.length_map, hon.len]; omega)
  have hcw0 : cw 1 ((List.range n).map nzenc) = .ow 1 ((List.range n).map nzenc) := cw_pos (by simp; omega)
  rw [hcw, hcw0]
  refine in_of h_slices_SortStableFunc___int_int_ (by simp) (by simp) rfl fun hwf => ?_
  simp -dsimp -implicitDefEqProofs [c_slices_SortStableFunc___int_int_]
  intro _
  refine call_in1 (up := some (0, .row 1 ((ordI R n).map nzenc))) hi (by simp) rfl rfl (ioC_row (rows := (List.range n).map nzenc) (by simp) rfl rfl (by simp) (by simp [hon.len]) rfl rfl) ?_
  simp -dsimp -implicitDefEqProofs
  exact ⟨by rw [List.take_of_length_le (by rw [List.length_map, hon.len]; exact Nat.le_refl _)], by simp [resP]⟩

end Go.Proofs.Ytfmgadchjiplmaa
