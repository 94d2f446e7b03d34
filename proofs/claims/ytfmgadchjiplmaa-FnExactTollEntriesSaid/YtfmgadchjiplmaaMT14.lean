/- Contracts of functions of this seat: what each answers, as plain Lean. -/
import Derived.Test.YtfmgadchjiplmaaMT13a
import Derived.Test.YtfmgadchjiplmaaMCode7
set_option linter.all false
namespace Go.Proofs.Ytfmgadchjiplmaa
open Go.RowKit

/-! Marks that take as many numbers as there are cells. -/
def seqM {α : Type} (f : Int → α → List C) (n : α → Nat) : Int → List α → List (List C)
  | _, [] => []
  | k, x :: l => f k x :: seqM f n (k + n x) l
def cnt {α : Type} (n : α → Nat) (l : List α) : Nat := (l.map n).sum
theorem seqM_len {α : Type} {f : Int → α → List C} {n : α → Nat} : ∀ {l : List α} {k : Int}, (seqM f n k l).length = l.length
  | [], _ => rfl
  | x :: l, k => by simp [seqM, seqM_len (l := l)]
theorem seqM_snoc {α : Type} {f : Int → α → List C} {n : α → Nat} {x : α} : ∀ {l : List α} {k : Int}, seqM f n k (l ++ [x]) = seqM f n k l ++ [f (k + cnt n l) x]
  | [], k => by simp [seqM, cnt]
  | y :: l, k => by
    simp only [List.cons_append, seqM, seqM_snoc (l := l)]
    simp [cnt, Int.add_assoc]
def seqTo {α : Type} (f : Int → α → List C) (g : α → List C) (n : α → Nat) (k : Int) (xs : List α) (i : Nat) : List (List C) := seqM f n k (xs.take i) ++ (xs.drop i).map g
def cntTo {α : Type} (n : α → Nat) (xs : List α) (i : Nat) : Nat := cnt n (xs.take i)
section
variable {α : Type} {f : Int → α → List C} {g : α → List C} {n : α → Nat} {k : Int} {xs : List α} {i : Nat} {x : α}
theorem cntTo_zero : cntTo n xs 0 = 0 := rfl
theorem cntTo_succ (h : xs[i]? = some x) : cntTo n xs (i + 1) = cntTo n xs i + n x := by
  unfold cntTo cnt; rw [List.take_succ, h, List.map_append, List.sum_append]; simp
theorem cntTo_all (h : xs.length ≤ i) : cntTo n xs i = cnt n xs := by unfold cntTo; rw [List.take_of_length_le h]
theorem cntTo_le : cntTo n xs i ≤ cnt n xs := by
  unfold cntTo cnt
  conv => rhs; rw [← List.take_append_drop i xs]
  rw [List.map_append, List.sum_append]; omega
theorem seqTo_zero : seqTo f g n k xs 0 = xs.map g := by simp [seqTo, seqM]
theorem seqTo_len : (seqTo f g n k xs i).length = xs.length := by
  unfold seqTo; rw [List.length_append, seqM_len, List.length_map, ← List.length_append, List.take_append_drop]
theorem seqTo_all (h : xs.length ≤ i) : seqTo f g n k xs i = seqM f n k xs := by
  unfold seqTo; rw [List.take_of_length_le h, List.drop_of_length_le h]; simp
theorem seqTo_get (h : xs[i]? = some x) : (seqTo f g n k xs i)[i]? = some (g x) := by
  have hlt := (List.getElem?_eq_some_iff.1 h).1
  have e : (seqM f n k (xs.take i)).length = i := by rw [seqM_len, List.length_take]; omega
  unfold seqTo
  rw [List.getElem?_append_right (by omega), e, Nat.sub_self, List.getElem?_map, List.getElem?_drop, Nat.add_zero, h]; rfl
theorem seqTo_set (h : xs[i]? = some x) : (seqTo f g n k xs i).set i (f (k + cntTo n xs i) x) = seqTo f g n k xs (i + 1) := by
  have hlt := (List.getElem?_eq_some_iff.1 h).1
  have e : (seqM f n k (xs.take i)).length = i := by rw [seqM_len, List.length_take]; omega
  unfold seqTo cntTo
  rw [List.set_append_right _ _ (by omega), e, Nat.sub_self, List.drop_eq_getElem_cons hlt, (List.getElem?_eq_some_iff.1 h).2, List.map_cons, List.set_cons_zero, List.take_succ, h]
  simp only [Option.toList_some]
  rw [seqM_snoc, List.append_assoc]; rfl
end
theorem seqM_at {α : Type} {f : Int → α → List C} {n : α → Nat} : ∀ {xs : List α} {k : Int} {i : Nat} {x : α}, xs[i]? = some x → (seqM f n k xs)[i]? = some (f (k + cntTo n xs i) x)
  | y :: l, k, 0, x, h => by simp at h; subst h; simp [seqM, cntTo, cnt]
  | y :: l, k, i + 1, x, h => by
    simp only [seqM, List.getElem?_cons_succ]
    rw [seqM_at (xs := l) (k := k + n y) (i := i) (x := x) (by simpa using h)]
    congr 2
    unfold cntTo cnt
    simp only [List.take_succ_cons, List.map_cons, List.sum_cons, Int.natCast_add]; omega
def mkB (k : Int) : List C := [.i k, .i (k + 1), .i (k + 1 + 1), .i (k + 1 + 1 + 1), .i (k + 1 + 1 + 1 + 1), .i (k + 1 + 1 + 1 + 1 + 1)]
theorem markBoatS_c (xs : List Boat) (k : Int) (h0 : 0 ≤ k) (h1 : k + 6 * xs.length ≤ 8000000000000000000) :
    InF Try.prog n_laws_markBoatS (.c (cw 6 (xs.map Boat.enc))) (.c (cw 6 (marked mkB 6 [] k xs.length))) [.c (.i k)] (.c (.i (k + 6 * xs.length))) := by
  rcases Nat.eq_zero_or_pos xs.length with hx | hx
  · have : xs = [] := List.length_eq_zero_iff.1 hx
    subst this
    refine in_of h_laws_markBoatS (by simp) (by simp) rfl fun hwf => ?_
    simp -dsimp -implicitDefEqProofs [c_laws_markBoatS, marked]
    refine loop_rule (ι := Unit) (fun _ => True) (fun _ => stOf [(0, .c (.sl 6 [])), (1, .c (.i k)), (5, .c (.i 0)), (1000000, .c (.sl 6 []))] []) (fun _ => 0) () trivial (by apply le_of <;> simp [AV.refs1, AV.ref0, Obj.refs1]) ?_
    rintro _ _
    simp -dsimp -implicitDefEqProofs
  · rw [cw_pos (by simpa using hx), cw_pos (by rw [marked_n]; exact hx)]
    refine in_of h_laws_markBoatS (by simp) (by simp) rfl fun hwf => ?_
    simp -dsimp -implicitDefEqProofs [c_laws_markBoatS]
    refine loop_rule (ι := Nat) (fun i => i ≤ xs.length) (fun i => stOf [(0, .own 0 6 xs.length), (1, .c (.i (k + 6 * i))), (5, .c (.i i)), (1000000, .own 0 6 xs.length)] [(0, .row 6 (marked mkB 6 (xs.map Boat.enc) k i))]) (fun i => xs.length - i) 0 (by simp) (by apply le_of <;> simp [AV.refs1, AV.ref0, Obj.refs1, marked_zero]) ?_
    rintro i hi
    rcases Nat.lt_or_ge i xs.length with hlt | hge
    · obtain ⟨e, he⟩ : ∃ e, xs[i]? = some e := ⟨_, List.getElem?_eq_getElem hlt⟩
      have hg := marked_get (mk := mkB) (c := 6) (k := k) (rows := xs.map Boat.enc) (i := i) (r := e.enc) (by simp [he])
      have hl := marked_len (mk := mkB) (c := 6) (k := k) (rows := xs.map Boat.enc) (i := i) (by simpa using hi)
      have hs := marked_set (mk := mkB) (c := 6) (k := k) (rows := xs.map Boat.enc) (i := i) (by simpa using hlt)
      rw [List.length_map] at hl
      generalize marked mkB 6 (xs.map Boat.enc) k i = M at *
      have hlt2 : i < M.length := by omega
      have hself : ∀ a, (M.set i a)[i]? = some a := fun a => List.getElem?_set_self hlt2
      simp only [mkB] at hs
      simp only [Boat.enc] at hg
      simp -dsimp -implicitDefEqProofs [lt_t hlt, hg, hl, hlt2, hself]
      intro hlen
      refine ⟨hlt, by unfold inI; omega, hlt, by unfold inI; omega, hlt, by unfold inI; omega, hlt, by unfold inI; omega, hlt, by unfold inI; omega, hlt, by unfold inI; omega, by unfold inI; omega, i + 1, hlt, by omega, ?_⟩
      apply le_of <;> simp [AV.refs1, AV.ref0, Obj.refs1, hs, hself] <;> omega
    · have : i = xs.length := by omega
      subst this
      simp -dsimp -implicitDefEqProofs
      intro _
      have e := marked_all (mk := mkB) (c := 6) (rows := xs.map Boat.enc) (k := k) (i := xs.length) (by simp)
      rw [e, List.length_map, List.take_of_length_le (by rw [marked_n]; exact Nat.le_refl _)]
def nB (r : List Boat) : Nat := 6 * r.length
def fB (k : Int) (r : List Boat) : List C := [.ow 6 (marked mkB 6 [] k r.length)]
theorem markBoatSS_c (xs : List (List Boat)) (k : Int) (h0 : 0 ≤ k) (h1 : k + cnt nB xs ≤ 8000000000000000000) :
    InF Try.prog n_laws_markBoatSS (.c (ct 1 (xs.map eo_BoatS))) (.c (ct 1 (seqM fB nB k xs))) [.c (.i k)] (.c (.i (k + cnt nB xs))) := by
  rcases Nat.eq_zero_or_pos xs.length with hx | hx
  · have : xs = [] := List.length_eq_zero_iff.1 hx
    subst this
    refine in_of h_laws_markBoatSS (by simp) (by simp) rfl fun hwf => ?_
    simp -dsimp -implicitDefEqProofs [c_laws_markBoatSS, seqM, cnt]
    refine loop_rule (ι := Unit) (fun _ => True) (fun _ => stOf [(0, .c (.sl 1 [])), (1, .c (.i k)), (5, .c (.i 0)), (1000000, .c (.sl 1 []))] []) (fun _ => 0) () trivial (by apply le_of <;> simp [AV.refs1, AV.ref0, Obj.refs1]) ?_
    rintro _ _
    simp -dsimp -implicitDefEqProofs
  · rw [ct_pos (by simpa using hx), ct_pos (by rw [seqM_len]; exact hx)]
    refine in_of h_laws_markBoatSS (by simp) (by simp) rfl fun hwf => ?_
    simp -dsimp -implicitDefEqProofs [c_laws_markBoatSS]
    refine loop_rule (ι := Nat) (fun i => i ≤ xs.length) (fun i => stOf [(0, .own 0 1 xs.length), (1, .c (.i (k + cntTo nB xs i))), (5, .c (.i i)), (1000000, .own 0 1 xs.length)] [(0, .tr 1 0 (seqTo fB eo_BoatS nB k xs i))]) (fun i => xs.length - i) 0 (by simp) (by apply le_of <;> simp [AV.refs1, AV.ref0, Obj.refs1, seqTo_zero, cntTo_zero, Obj.leO]) ?_
    rintro i hi
    rcases Nat.lt_or_ge i xs.length with hlt | hge
    · obtain ⟨e, he⟩ : ∃ e, xs[i]? = some e := ⟨_, List.getElem?_eq_getElem hlt⟩
      have hg := seqTo_get (f := fB) (g := eo_BoatS) (n := nB) (k := k) he
      have hl := seqTo_len (f := fB) (g := eo_BoatS) (n := nB) (k := k) (xs := xs) (i := i)
      have hs := seqTo_set (f := fB) (g := eo_BoatS) (n := nB) (k := k) he
      have hc := cntTo_succ (n := nB) he
      have hle := cntTo_le (n := nB) (xs := xs) (i := i + 1)
      have hn : nB e = 6 * e.length := rfl
      generalize hM : seqTo fB eo_BoatS nB k xs i = M at *
      have hlt2 : i < M.length := by omega
      have g1 : M[i] = eo_BoatS e := (List.getElem?_eq_some_iff.1 hg).2
      have hself : ∀ a, (M.set i a)[i]? = some a := fun a => List.getElem?_set_self hlt2
      simp -dsimp -implicitDefEqProofs [lt_t hlt, hg, hl, hlt2, g1, eo_BoatS]
      intro hlen
      refine ⟨hlt, call_inSub (k0 := 1) (ver := 0) (j := 0) (i := (i : Int)) (rows := M) (r := eo_BoatS e) (c := .ow 6 (e.map Boat.enc)) (c' := .ow 6 (marked mkB 6 [] (k + cntTo nB xs i) e.length)) (markBoatS_c e (k + cntTo nB xs i) (by omega) (by omega)) (by simp) rfl rfl rfl (by simpa using hg) rfl ⟨_, by rw [marked_n]; simp, rfl, rfl, rfl⟩ (by simp [C.sz]) ?_⟩
      have e0 : (eo_BoatS e).set 0 (.ow 6 (marked mkB 6 [] (k + cntTo nB xs i) e.length)) = fB (k + cntTo nB xs i) e := rfl
      rw [e0]
      simp -dsimp -implicitDefEqProofs
      refine ⟨inI_succ hlt hlen, i + 1, hlt, by omega, ?_⟩
      apply le_of <;> simp [AV.refs1, AV.ref0, Obj.refs1, Obj.leO, hs] <;> omega
    · have : i = xs.length := by omega
      subst this
      simp -dsimp -implicitDefEqProofs
      intro _
      rw [seqTo_all (Nat.le_refl _), cntTo_all (Nat.le_refl _), List.take_of_length_le (by rw [seqM_len]; exact Nat.le_refl _)]
      exact ⟨rfl, rfl⟩

end Go.Proofs.Ytfmgadchjiplmaa
