/- Contracts of functions of this seat: what each answers, as plain Lean. -/
import Derived.Test.YtfmgadchjiplmaaMTV
set_option linter.all false
namespace Go.Proofs.Ytfmgadchjiplmaa
open Go.RowKit

/-! Shares: a stable sort by insertion, and that it names the places in the order in which the greatest are picked. -/
theorem amaxTo_first {l : List Int} : ∀ {k j : Nat}, j < amaxTo l k → vAt l j < vAt l (amaxTo l k)
  | 0, j, h => by simp [amaxTo] at h
  | k + 1, j, h => by
    rw [amaxTo_succ] at h ⊢
    split at h
    · rename_i h2
      rw [if_pos h2]
      have := amaxTo_ge (l := l) (show j < k from h)
      omega
    · rename_i h2
      rw [if_neg h2]
      exact amaxTo_first h
theorem amaxTo_eq {l : List Int} {n a : Nat} (h : a < n) (h1 : ∀ x, x < n → vAt l x ≤ vAt l a) (h2 : ∀ x, x < a → vAt l x < vAt l a) (hn : n ≤ l.length) : amaxTo l n = a := by
  have g1 := amaxTo_ge (l := l) h
  have g2 : amaxTo l n < l.length := amaxTo_lt (by omega) hn
  have g3 : amaxTo l n < n := by
    have : ∀ k : Nat, 0 < k → amaxTo l k < k := by
      intro k
      induction k with
      | zero => intro h; omega
      | succ k ih =>
        intro _
        rw [amaxTo_succ]
        split
        · omega
        · rcases Nat.eq_zero_or_pos k with e | e
          · subst e; simp [amaxTo]
          · have := ih e; omega
    exact this n (by omega)
  have g4 := h1 _ g3
  rcases Nat.lt_trichotomy a (amaxTo l n) with e | e | e
  · have := amaxTo_first e; omega
  · exact e.symm
  · have := h2 _ e; omega
def better (R : List Int) (x y : Nat) : Prop := vAt R y < vAt R x ∨ (vAt R x = vAt R y ∧ x < y)
def insP (R : List Int) (i : Nat) (x : Nat) : Bool := decide (vAt R i ≤ vAt R x)
def insI (R : List Int) (i : Nat) (P : List Nat) : List Nat := P.takeWhile (insP R i) ++ i :: P.dropWhile (insP R i)
def ordI (R : List Int) : Nat → List Nat
  | 0 => []
  | i + 1 => insI R i (ordI R i)
theorem split_at {p : Nat → Bool} : ∀ {l1 l2 : List Nat}, (∀ x ∈ l1, p x = true) → (∀ x ∈ l2, p x = false) → (l1 ++ l2).takeWhile p = l1 ∧ (l1 ++ l2).dropWhile p = l2
  | [], [], _, _ => ⟨rfl, rfl⟩
  | [], x :: l, _, h => by
    have := h x (by simp)
    simp [List.takeWhile_cons, List.dropWhile_cons, this]
  | x :: l, l2, h1, h2 => by
    have hx := h1 x (by simp)
    obtain ⟨e1, e2⟩ := split_at (p := p) (l1 := l) (l2 := l2) (fun y hy => h1 y (by simp [hy])) h2
    simp [List.takeWhile_cons, List.dropWhile_cons, hx, e1, e2]
theorem dropWhile_head {p : Nat → Bool} : ∀ {l r : List Nat} {y : Nat}, l.dropWhile p = y :: r → p y = false
  | [], r, y, h => by simp at h
  | x :: l, r, y, h => by
    rw [List.dropWhile_cons] at h
    split at h
    · exact dropWhile_head h
    · rename_i hx
      cases h
      simpa using hx
theorem insI_of {R : List Int} {i : Nat} {P l1 l2 : List Nat} (hP : P.Pairwise (better R)) (e : l1 ++ l2 = P) (h2 : ∀ x ∈ l2, vAt R x < vAt R i) (h1 : ∀ l y, l1 = l ++ [y] → vAt R i ≤ vAt R y) : insI R i P = l1 ++ i :: l2 := by
  subst e
  have hall : ∀ x ∈ l1, insP R i x = true := by
    rcases List.eq_nil_or_concat l1 with e | ⟨l, y, e⟩
    · subst e; simp
    · have hy := h1 l y (by simpa using e)
      subst e
      intro x hx
      simp only [insP, decide_eq_true_eq]
      rw [List.concat_eq_append] at hx hP
      rcases List.mem_append.1 hx with hx | hx
      · have := (List.pairwise_append.1 (List.pairwise_append.1 hP).1).2.2 x hx y (by simp)
        unfold better at this; omega
      · rw [List.mem_singleton] at hx; subst hx; exact hy
  obtain ⟨e1, e2⟩ := split_at (p := insP R i) hall (fun x hx => by have := h2 x hx; simp only [insP, decide_eq_false_iff_not]; omega)
  unfold insI
  rw [e1, e2]
structure OrdFacts (R : List Int) (i : Nat) (o : List Nat) : Prop where
  len : o.length = i
  lt : ∀ x ∈ o, x < i
  pw : o.Pairwise (better R)
  all : ∀ x, x < i → x ∈ o
theorem ordFacts (R : List Int) : ∀ i : Nat, OrdFacts R i (ordI R i)
  | 0 => ⟨rfl, by simp [ordI], by simp [ordI], fun x h => by omega⟩
  | i + 1 => by
    have f := ordFacts R i
    show OrdFacts R (i + 1) (insI R i (ordI R i))
    generalize ordI R i = P at f
    have e := List.takeWhile_append_dropWhile (p := insP R i) (l := P)
    have h1 : ∀ x ∈ P.takeWhile (insP R i), vAt R i ≤ vAt R x := fun x hx => by
      have : insP R i x = true := by
        have := List.all_takeWhile (p := insP R i) (l := P)
        exact List.all_eq_true.1 this x hx
      simpa [insP] using this
    have h2 : ∀ x ∈ P.dropWhile (insP R i), vAt R x < vAt R i := by
      intro x hx
      have hpw : (P.dropWhile (insP R i)).Pairwise (better R) := by have := f.pw; rw [← e] at this; exact (List.pairwise_append.1 this).2.1
      have hh : ∀ y l, P.dropWhile (insP R i) = y :: l → vAt R y < vAt R i := by
        intro y l hy
        have := dropWhile_head hy
        simpa [insP] using this
      cases hd : P.dropWhile (insP R i) with
      | nil => rw [hd] at hx; cases hx
      | cons y l =>
        have hy := hh y l hd
        rw [hd] at hx hpw
        rcases List.mem_cons.1 hx with e | e
        · subst e; exact hy
        · have := (List.pairwise_cons.1 hpw).1 x e
          unfold better at this; omega
    have hlen : (P.takeWhile (insP R i)).length + (P.dropWhile (insP R i)).length = i := by rw [← List.length_append, e, f.len]
    have hmem : ∀ x, x ∈ P ↔ x ∈ P.takeWhile (insP R i) ∨ x ∈ P.dropWhile (insP R i) := fun x => by rw [← List.mem_append, e]
    refine ⟨by simp only [insI, List.length_append, List.length_cons]; omega, fun x hx => ?_, ?_, fun x hx => ?_⟩
    · rcases List.mem_append.1 hx with hx | hx
      · have := f.lt x ((hmem x).2 (.inl hx)); omega
      · rcases List.mem_cons.1 hx with hx | hx
        · omega
        · have := f.lt x ((hmem x).2 (.inr hx)); omega
    · have hpw := f.pw
      rw [← e] at hpw
      obtain ⟨p1, p2, p3⟩ := List.pairwise_append.1 hpw
      refine List.pairwise_append.2 ⟨p1, List.pairwise_cons.2 ⟨fun y hy => .inl (h2 y hy), p2⟩, fun x hx y hy => ?_⟩
      rcases List.mem_cons.1 hy with hy | hy
      · subst hy
        have a1 := h1 x hx
        have a2 := f.lt x ((hmem x).2 (.inl hx))
        unfold better; omega
      · exact p3 x hx y hy
    · rcases Nat.lt_or_ge x i with h | h
      · rcases (hmem x).1 (f.all x h) with h | h
        · exact List.mem_append_left _ h
        · exact List.mem_append_right _ (List.mem_cons_of_mem _ h)
      · have : x = i := by omega
        subst this
        exact List.mem_append_right _ (List.mem_cons_self ..)
def shTo (out : List Int) (o : List Nat) (j : Nat) : List Int := (o.take j).foldl (fun s x => s.set x (vAt s x + 1)) out
def restTo (R : List Int) (o : List Nat) (j : Nat) : List Int := (o.take j).foldl (fun s x => s.set x (-1)) R
theorem shTo_zero {out : List Int} {o : List Nat} : shTo out o 0 = out := rfl
theorem restTo_zero {out : List Int} {o : List Nat} : restTo out o 0 = out := rfl
theorem shTo_succ {out : List Int} {o : List Nat} {j x : Nat} (h : o[j]? = some x) : shTo out o (j + 1) = (shTo out o j).set x (vAt (shTo out o j) x + 1) := by
  unfold shTo; rw [List.take_succ, h, List.foldl_append]; rfl
theorem restTo_succ {out : List Int} {o : List Nat} {j x : Nat} (h : o[j]? = some x) : restTo out o (j + 1) = (restTo out o j).set x (-1) := by
  unfold restTo; rw [List.take_succ, h, List.foldl_append]; rfl
theorem shTo_len {out : List Int} {o : List Nat} : ∀ j : Nat, (shTo out o j).length = out.length
  | 0 => rfl
  | j + 1 => by
    cases h : o[j]? with
    | none =>
      have hl : o.length ≤ j := by simpa using h
      have e : shTo out o (j + 1) = shTo out o j := by unfold shTo; rw [List.take_of_length_le (by omega), List.take_of_length_le hl]
      rw [e, shTo_len j]
    | some x => rw [shTo_succ h, List.length_set, shTo_len j]
theorem restTo_len {out : List Int} {o : List Nat} : ∀ j : Nat, (restTo out o j).length = out.length
  | 0 => rfl
  | j + 1 => by
    cases h : o[j]? with
    | none =>
      have hl : o.length ≤ j := by simpa using h
      have e : restTo out o (j + 1) = restTo out o j := by unfold restTo; rw [List.take_of_length_le (by omega), List.take_of_length_le hl]
      rw [e, restTo_len j]
    | some x => rw [restTo_succ h, List.length_set, restTo_len j]
theorem vAt_set {l : List Int} {i j : Nat} {v : Int} (h : i < l.length) : vAt (l.set i v) j = if i = j then v else vAt l j := by
  unfold vAt
  rw [List.getElem?_set]
  by_cases e : i = j
  · simp [e, e ▸ h]
  · simp [e]
theorem restTo_at {R : List Int} {o : List Nat} (ho : ∀ x ∈ o, x < R.length) : ∀ (j y : Nat), vAt (restTo R o j) y = if y ∈ o.take j then -1 else vAt R y
  | 0, y => by simp [restTo_zero]
  | j + 1, y => by
    cases h : o[j]? with
    | none =>
      have hl : o.length ≤ j := by simpa using h
      have e : restTo R o (j + 1) = restTo R o j := by unfold restTo; rw [List.take_of_length_le (by omega), List.take_of_length_le hl]
      rw [e, restTo_at ho j y, List.take_of_length_le hl, List.take_of_length_le (by omega)]
    | some x =>
      rw [restTo_succ h, vAt_set (by rw [restTo_len]; exact ho x (List.mem_of_getElem? h)), restTo_at ho j y, List.take_succ, h]
      by_cases e : x = y
      · simp [e]
      · have : y ≠ x := fun h => e h.symm
        simp [e, this]
theorem pick_is {R : List Int} (hR : ∀ x, 0 ≤ vAt R x) {j a : Nat} (h : (ordI R R.length)[j]? = some a) : amaxTo (restTo R (ordI R R.length) j) (restTo R (ordI R R.length) j).length = a := by
  have f := ordFacts R R.length
  generalize ordI R R.length = o at *
  have hj := (List.getElem?_eq_some_iff.1 h).1
  have ha := f.lt a (List.mem_of_getElem? h)
  have irr : ∀ x, ¬ better R x x := fun x h => by unfold better at h; omega
  have hsplit : o = o.take j ++ a :: o.drop (j + 1) := by
    rw [← (List.getElem?_eq_some_iff.1 h).2, List.getElem_cons_drop, List.take_append_drop]
  have hpw := f.pw
  rw [hsplit] at hpw
  obtain ⟨p1, p2, p3⟩ := List.pairwise_append.1 hpw
  have hnot : a ∉ o.take j := fun hm => irr a (p3 a hm a (by simp))
  have hat := restTo_at (R := R) f.lt j
  have hva : vAt (restTo R o j) a = vAt R a := by rw [hat, if_neg hnot]
  have key : ∀ x, x < R.length → x ∉ o.take j → x = a ∨ better R a x := by
    intro x hx hn
    have := f.all x hx
    rw [hsplit] at this
    rcases List.mem_append.1 this with h1 | h1
    · exact absurd h1 hn
    · rcases List.mem_cons.1 h1 with h1 | h1
      · exact .inl h1
      · exact .inr ((List.pairwise_cons.1 p2).1 x h1)
  rw [restTo_len]
  refine amaxTo_eq ha (fun x hx => ?_) (fun x hx => ?_) (by rw [restTo_len]; exact Nat.le_refl _)
  · rw [hva, hat]
    split
    · have := hR a; omega
    · rename_i hn
      rcases key x hx hn with e | e
      · subst e; exact Int.le_refl _
      · unfold better at e; omega
  · rw [hva, hat]
    split
    · have := hR a; omega
    · rename_i hn
      rcases key x (by omega) hn with e | e
      · omega
      · unfold better at e; omega
def shareF : Nat → List Int → List Int → List Int
  | 0, out, _ => out
  | n + 1, out, rest => shareF n (out.set (amaxTo rest rest.length) (vAt out (amaxTo rest rest.length) + 1)) (rest.set (amaxTo rest rest.length) (-1))
theorem shareF_is {R Q : List Int} (hR : ∀ x, 0 ≤ vAt R x) : ∀ (m j : Nat), j + m ≤ R.length → shareF m (shTo Q (ordI R R.length) j) (restTo R (ordI R R.length) j) = shTo Q (ordI R R.length) (j + m)
  | 0, j, _ => rfl
  | m + 1, j, h => by
    have hj : j < (ordI R R.length).length := by rw [(ordFacts R R.length).len]; omega
    obtain ⟨a, ha⟩ : ∃ a, (ordI R R.length)[j]? = some a := ⟨_, List.getElem?_eq_getElem hj⟩
    have hp := pick_is hR ha
    unfold shareF
    rw [hp, ← shTo_succ ha, ← restTo_succ ha, shareF_is hR m (j + 1) (by omega)]
    congr 1; omega
def quota (t s w : Int) : Int := (t * w).tdiv s
def remn (t s w : Int) : Int := (t * w).tmod s
def okShare (t : Int) (ws : List Int) : Bool := inRange t 0 1000000000 && decide (1 ≤ ws.length) && decide (ws.length ≤ 12) && ws.all (fun w => inRange w 0 1000000) && decide (ws.sum ≠ 0)
def restOf (t : Int) (ws : List Int) : Int := t - (ws.map (quota t ws.sum)).sum
def ShareOut (t : Int) (ws : List Int) : List Int := if okShare t ws then shareF (restOf t ws).toNat (ws.map (quota t ws.sum)) (ws.map (remn t ws.sum)) else []
structure ShareFacts (t : Int) (ws : List Int) : Prop where
  tot : 0 ≤ t ∧ t ≤ 1000000000
  len : 1 ≤ ws.length ∧ ws.length ≤ 12
  rng : ∀ w ∈ ws, 0 ≤ w ∧ w ≤ 1000000
  sum : 1 ≤ ws.sum ∧ ws.sum ≤ 12000000
theorem sum_bnd {l : List Int} {m : Int} (h : ∀ x ∈ l, 0 ≤ x ∧ x ≤ m) : 0 ≤ l.sum ∧ l.sum ≤ m * l.length := by
  induction l with
  | nil => simp
  | cons a l ih =>
    have h1 := ih fun x hx => h x (by simp [hx])
    have h2 := h a (by simp)
    simp only [List.sum_cons, List.length_cons, Int.natCast_add, Int.natCast_one, Int.mul_add, Int.mul_one]
    omega
theorem shareFacts {t : Int} {ws : List Int} (h : okShare t ws = true) : ShareFacts t ws := by
  simp only [okShare, Bool.and_eq_true, decide_eq_true_eq, List.all_eq_true] at h
  obtain ⟨⟨⟨⟨h1, h2⟩, h3⟩, h4⟩, h5⟩ := h
  have hr : ∀ w ∈ ws, 0 ≤ w ∧ w ≤ 1000000 := fun w hw => inRange_iff.1 (h4 w hw)
  have hs := sum_bnd hr
  exact ⟨inRange_iff.1 h1, ⟨h2, h3⟩, hr, by omega⟩
theorem quota_rng {t s w : Int} (ht : 0 ≤ t ∧ t ≤ 1000000000) (hs : 1 ≤ s) (hw : 0 ≤ w ∧ w ≤ 1000000) : 0 ≤ quota t s w ∧ quota t s w ≤ 1000000000000000 ∧ 0 ≤ remn t s w ∧ remn t s w < s ∧ s * quota t s w + remn t s w = t * w ∧ 0 ≤ t * w ∧ t * w ≤ 1000000000000000 := by
  have h0 : 0 ≤ t * w := Int.mul_nonneg ht.1 hw.1
  have h1 : t * w ≤ 1000000000 * 1000000 := Int.mul_le_mul ht.2 hw.2 hw.1 (by omega)
  unfold quota remn
  rw [Int.tdiv_eq_ediv_of_nonneg h0, Int.tmod_eq_emod_of_nonneg h0]
  have a1 := Int.emod_nonneg (t * w) (show s ≠ 0 by omega)
  have a2 := Int.emod_lt_of_pos (t * w) (show 0 < s by omega)
  have a3 := Int.mul_ediv_add_emod (t * w) s
  have a4 : 0 ≤ t * w / s := Int.ediv_nonneg h0 (by omega)
  have a5 : t * w / s ≤ t * w := Int.ediv_le_self _ h0
  exact ⟨a4, by omega, a1, a2, a3, h0, by omega⟩
theorem share_sums {t s : Int} (ht : 0 ≤ t ∧ t ≤ 1000000000) (hs : 1 ≤ s) : ∀ {ws : List Int}, (∀ w ∈ ws, 0 ≤ w ∧ w ≤ 1000000) → s * (ws.map (quota t s)).sum + (ws.map (remn t s)).sum = t * ws.sum
  | [], _ => by simp
  | w :: ws, h => by
    have ih := share_sums ht hs (ws := ws) fun x hx => h x (by simp [hx])
    have q := (quota_rng (t := t) (s := s) ht hs (h w (by simp))).2.2.2.2.1
    simp only [List.map_cons, List.sum_cons, Int.mul_add]
    omega
theorem left_rng {t : Int} {ws : List Int} (h : ShareFacts t ws) : 0 ≤ restOf t ws ∧ restOf t ws < ws.length := by
  have hs := share_sums h.tot h.sum.1 h.rng
  have hr := sum_bnd (l := ws.map (remn t ws.sum)) (m := ws.sum - 1) (fun x hx => by
    obtain ⟨w, hw, rfl⟩ := List.mem_map.1 hx
    have := quota_rng h.tot h.sum.1 (h.rng w hw)
    omega)
  rw [List.length_map] at hr
  have e : ws.sum * restOf t ws = (ws.map (remn t ws.sum)).sum := by
    unfold restOf; rw [Int.mul_sub, Int.mul_comm ws.sum t]; omega
  have hp := h.sum.1
  have hl := h.len.1
  constructor
  · rcases Int.lt_or_le (restOf t ws) 0 with h1 | h1
    · have := Int.mul_neg_of_pos_of_neg (show 0 < ws.sum by omega) h1
      omega
    · exact h1
  · rcases Int.lt_or_le (restOf t ws) ws.length with h1 | h1
    · exact h1
    · have h2 := Int.mul_le_mul_of_nonneg_left h1 (show 0 ≤ ws.sum by omega)
      have h3 : (ws.sum - 1) * (ws.length : Int) < ws.sum * (ws.length : Int) := Int.mul_lt_mul_of_pos_right (by omega) (by omega)
      omega
theorem ShareOut_is {t : Int} {ws : List Int} (h : okShare t ws = true) : ShareOut t ws = shTo (ws.map (quota t ws.sum)) (ordI (ws.map (remn t ws.sum)) ws.length) (restOf t ws).toNat := by
  have f := shareFacts h
  have hl := left_rng f
  have hR : ∀ x, 0 ≤ vAt (ws.map (remn t ws.sum)) x := by
    intro x
    unfold vAt
    cases hx : (ws.map (remn t ws.sum))[x]? with
    | none => simp
    | some r =>
      rw [List.getElem?_map, Option.map_eq_some_iff] at hx
      obtain ⟨w, hw, rfl⟩ := hx
      exact (quota_rng f.tot f.sum.1 (f.rng w (List.mem_of_getElem? hw))).2.2.1
  have key := shareF_is (Q := ws.map (quota t ws.sum)) hR (restOf t ws).toNat 0 (by rw [List.length_map]; omega)
  rw [shTo_zero, restTo_zero, List.length_map, Nat.zero_add] at key
  rw [ShareOut, if_pos h, key]

end Go.Proofs.Ytfmgadchjiplmaa
