/- The abstract machine, part 13: append, the instruction. -/
import Derived.Test.YtenfgllkjgfjpaaMCore12
set_option linter.all false
namespace Go.Proofs.Ytenfgllkjgfjpaa
open Go.RowKit

section
variable {P : Program} {g : Ghost} {o : Oper} {s : St} {a : Act} {w : World} {blk : Lay} {K : St → Prop}

theorem run_append_room' (t ty e e' : TypeId) (i : TypeInfo) (ht : P.underlying t = some (.slice e)) (hi : P.info? e = some i)
    (q sLen sCap : Nat) (cur : Array Value) (hg : w.heap[q]? = some (.cells cur e' (0, 0)))
    (ad : Addr) (m c : Nat) (news : List Value) (hl : news.length = m * i.size) (hnews : ∀ j u, news[j]? = some u → w.cell? (ad.add j) = some u) (h1 : ∀ u ∈ news, u.oneCell' = true)
    (hroom : sLen + m ≤ sCap) (hfit : sLen * i.size + news.length ≤ cur.size) :
    (Builtin.append_ #[t, t] ty #[.slice (some ⟨q, 0, none⟩) sLen sCap, .slice (some ad) m c]).run P w =
      .ok (.slice (some ⟨q, 0, none⟩) (sLen + m) sCap) (w.setRow q (cur.toList.take (sLen * i.size) ++ news ++ cur.toList.drop (sLen * i.size + news.length)).toArray) := by
  have hf := run_firstCells_some (P := P) w i.size m ad m c news hl hnews
  have hst := run_storeCells_at P q (sLen * i.size) e' news 0 cur w hg (by simpa using hfit) h1
  simp only [Nat.add_zero] at hst
  simp [Builtin.append_, run_underlying ht, sizeOf, typeInfo, hi, Builtin.lenOf, hroom, hf, add_lit, hst]

theorem run_append_none (t ty e : TypeId) (i : TypeInfo) (ht : P.underlying t = some (.slice e)) (hi : P.info? e = some i) (A : Option Addr) (n cap c : Nat) (hn : n ≤ cap) :
    (Builtin.append_ #[t, t] ty #[.slice A n cap, .slice none 0 c]).run P w = .ok (.slice A n cap) w := by
  cases A <;> simp [Builtin.append_, run_underlying ht, sizeOf, typeInfo, hi, Builtin.lenOf, Builtin.firstCells, hn, storeCells]

theorem run_append_empty (t ty e : TypeId) (i : TypeInfo) (ht : P.underlying t = some (.slice e)) (hi : P.info? e = some i) (A0 : Option Addr) (ad : Addr) (c : Nat) :
    (Builtin.append_ #[t, t] ty #[.slice A0 0 0, .slice (some ad) 0 c]).run P w = .ok (.slice A0 0 0) w := by
  cases A0 <;> simp [Builtin.append_, run_underlying ht, sizeOf, typeInfo, hi, Builtin.lenOf, Builtin.firstCells, loadCells, loadCellsFrom, storeCells]

/-- The cells of two lists of rows, one behind the other, and what comes behind. -/
theorem rows_join {G : Nat → Prop} {k : Nat} {rows new : List (List C)} {olds news rest : List Value} (ho : olds.length = rows.length * k) (h1 : ∀ (i : Nat) (r : List C) (j : Nat) (c : C), rows[i]? = some r → r[j]? = some c → ∃ u, olds[i * k + j]? = some u ∧ Rd w G u c)
    (h2 : ∀ (i : Nat) (r : List C) (j : Nat) (c : C), new[i]? = some r → r[j]? = some c → ∃ u, news[i * k + j]? = some u ∧ Rd w G u c) :
    ∀ (i : Nat) (r : List C) (j : Nat) (c : C), (rows ++ new)[i]? = some r → r[j]? = some c → ∃ u, (olds ++ news ++ rest)[i * k + j]? = some u ∧ Rd w G u c := by
  intro i r j c hr hc
  by_cases hi : i < rows.length
  · rw [List.getElem?_append_left hi] at hr
    obtain ⟨u, hu, hru⟩ := h1 i r j c hr hc
    have : i * k + j < olds.length := (List.getElem?_eq_some_iff.1 hu).1
    exact ⟨u, by rw [List.append_assoc, List.getElem?_append_left this]; exact hu, hru⟩
  · rw [List.getElem?_append_right (by omega)] at hr
    obtain ⟨u, hu, hru⟩ := h2 _ r j c hr hc
    have hlt : (i - rows.length) * k + j < news.length := (List.getElem?_eq_some_iff.1 hu).1
    have e1 : i * k + j = olds.length + ((i - rows.length) * k + j) := by
      rw [ho, Nat.sub_mul]
      have : rows.length * k ≤ i * k := Nat.mul_le_mul_right _ (by omega)
      omega
    refine ⟨u, ?_, hru⟩
    rw [e1, List.append_assoc, List.getElem?_append_right (by omega), Nat.add_sub_cancel_left, List.getElem?_append_left hlt]
    exact hu

theorem grown_arr {G : Nat → Prop} {k : Nat} {rows new : List (List C)} {olds news : List Value} {z : Array Value} {cap : Nat} (ho : olds.length = rows.length * k) (hn : news.length = new.length * k) (hz : z.size = k) (hcap : rows.length + new.length ≤ cap)
    (hro : ∀ r, r ∈ rows → r.length = k) (hrn : ∀ r, r ∈ new → r.length = k)
    (h1 : ∀ (i : Nat) (r : List C) (j : Nat) (c : C), rows[i]? = some r → r[j]? = some c → ∃ u, olds[i * k + j]? = some u ∧ Rd w G u c)
    (h2 : ∀ (i : Nat) (r : List C) (j : Nat) (c : C), new[i]? = some r → r[j]? = some c → ∃ u, news[i * k + j]? = some u ∧ Rd w G u c) :
    (olds.toArray ++ news.toArray ++ Builtin.zeroCells z (cap - (rows.length + new.length))).size = cap * k ∧ (rows ++ new).length * k ≤ (olds.toArray ++ news.toArray ++ Builtin.zeroCells z (cap - (rows.length + new.length))).size ∧
    (∀ r, r ∈ rows ++ new → r.length = k) ∧
    ∀ (i : Nat) (r : List C) (j : Nat) (c : C), (rows ++ new)[i]? = some r → r[j]? = some c → ∃ u, (olds.toArray ++ news.toArray ++ Builtin.zeroCells z (cap - (rows.length + new.length)))[i * k + j]? = some u ∧ Rd w G u c := by
  have hsz : (olds.toArray ++ news.toArray ++ Builtin.zeroCells z (cap - (rows.length + new.length))).size = cap * k := by
    simp only [Array.size_append, List.size_toArray, size_zeroCells, hz, ho, hn, ← Nat.add_mul]
    congr 1; omega
  refine ⟨hsz, ?_, fun r hr => ?_, fun i r j c hr hc => ?_⟩
  · rw [hsz, List.length_append]; exact Nat.mul_le_mul_right _ hcap
  · rcases List.mem_append.1 hr with h | h
    · exact hro r h
    · exact hrn r h
  · obtain ⟨u, hu, hru⟩ := rows_join (rest := (Builtin.zeroCells z (cap - (rows.length + new.length))).toList) ho h1 h2 i r j c hr hc
    refine ⟨u, ?_, hru⟩
    rw [← hu, ← Array.getElem?_toList]
    simp

theorem rd_mono_list {G G' : Nat → Prop} {w' : World} {k : Nat} {rows : List (List C)} {f : Nat → Option Value} (hm : ∀ u c, Rd w G u c → Rd w' G' u c)
    (h1 : ∀ (i : Nat) (r : List C) (j : Nat) (c : C), rows[i]? = some r → r[j]? = some c → ∃ u, f (i * k + j) = some u ∧ Rd w G u c) :
    ∀ (i : Nat) (r : List C) (j : Nat) (c : C), rows[i]? = some r → r[j]? = some c → ∃ u, f (i * k + j) = some u ∧ Rd w' G' u c := by
  intro i r j c hr hc
  obtain ⟨u, hu, hru⟩ := h1 i r j c hr hc
  exact ⟨u, hu, hm u c hru⟩

/-- What an append leaves, of a slice in a block or of one that is nil. -/
theorem app_view {t ty e : TypeId} {i : TypeInfo} {z : Value} (ht : P.underlying t = some (.slice e)) (hi : P.info? e = some i) (hz : i.zero = some z) (hsz : z.cells.size = i.size) (hby : 0 < i.bytes)
    {v : Value} {hb : Option Nat} {n : Nat} {olds : List Value}
    (hv : (hb = none ∧ (∃ A0, v = .slice A0 0 0) ∧ n = 0 ∧ olds = []) ∨ ∃ b cap arr e', hb = some b ∧ v = .slice (some ⟨b, 0, none⟩) n cap ∧ w.heap[b]? = some (.cells arr e' (0, 0)) ∧ n ≤ cap ∧ cap ≤ maxLen ∧ cap * i.size ≤ arr.size ∧ olds = arr.toList.take (n * i.size))
    {A : Option Addr} {m c : Nat} (hA : A = none → m = 0) {news : List Value} (hn0 : A = none → news = []) (hnl : news.length = m * i.size) (hnews : ∀ ad, A = some ad → ∀ j u, news[j]? = some u → w.cell? (ad.add j) = some u) (hone : ∀ u ∈ news, u.oneCell' = true)
    (hbig : (n + m) * i.bytes ≤ 140737488355328) :
    ∃ (r : Value) (w' : World) (X : Nat → Prop), (Builtin.append_ #[t, t] ty #[v, .slice A m c]).run P w = .ok r w' ∧ Off X w w' ∧ (∀ q, X q → hb = some q) ∧
      ((hb = none ∧ (∃ A0, r = .slice A0 0 0) ∧ n + m = 0 ∧ w' = w) ∨ ∃ b' cap' arr' e'', r = .slice (some ⟨b', 0, none⟩) (n + m) cap' ∧ w'.heap[b']? = some (.cells arr' e'' (0, 0)) ∧ n + m ≤ cap' ∧ cap' ≤ maxLen ∧ cap' * i.size ≤ arr'.size ∧
        (hb = some b' ∨ (w.heap.size ≤ b' ∧ b' < w'.heap.size)) ∧ ∀ (q : Nat) (u : Value), (olds ++ news)[q]? = some u → arr'[q]? = some u) := by
  have hlen : n + m ≤ maxLen := by
    have := Nat.le_trans (Nat.le_mul_of_pos_right (n + m) hby) hbig
    unfold maxLen; omega
  rcases hv with ⟨rfl, ⟨A0, rfl⟩, rfl, rfl⟩ | ⟨b, cap, arr, e', rfl, rfl, h3, h1, h2, h4, rfl⟩
  · rcases Nat.eq_zero_or_pos m with h0 | h0
    · subst h0
      refine ⟨.slice A0 0 0, w, noF, ?_, Off.refl _ _, fun q hq => hq.elim, .inl ⟨rfl, ⟨A0, rfl⟩, rfl, rfl⟩⟩
      cases A with
      | none => exact run_append_none t ty e i ht hi A0 0 0 c (Nat.le_refl _)
      | some ad => exact run_append_empty t ty e i ht hi A0 ad c
    · cases A with
      | none => have := hA rfl; omega
      | some ad =>
        simp only [Nat.zero_add] at hlen hbig ⊢
        have hr : (Builtin.append_ #[t, t] ty #[.slice A0 0 0, .slice (some ad) m c]).run P w = .ok (.slice (some ⟨w.heap.size, 0, none⟩) m (grownCap w m 0 e)) (w.drew.alloc (.cells (news.toArray ++ Builtin.zeroCells z.cells (grownCap w m 0 e - m)) e)) := by
          cases A0 with
          | none => exact run_append_nil (P := P) w t ty e i z ht hi hz ad m c news hnl (hnews ad rfl) h0 (by unfold maxLen at hlen; omega) (by omega)
          | some bd =>
            have := run_append_grow (P := P) w t ty e i z ht hi hz bd 0 0 [] (by simp) (by simp) ad m c news hnl (hnews ad rfl) (by simpa using h0) (by unfold maxLen at hlen; simp; omega) (growslice_fits (by simpa using h0) (by simpa using hbig))
            simpa using this
        have hcap := grownCap_ge w m 0 e
        have hcapm := grownCap_le_maxLen w m 0 e hlen
        have hnew := heap_alloc_new w.drew (.cells (news.toArray ++ Builtin.zeroCells z.cells (grownCap w m 0 e - m)) e)
        refine ⟨_, _, noF, hr, (Off.refl noF w).drew.alloc _, fun q hq => hq.elim, .inr ⟨w.heap.size, _, _, e, rfl, hnew, hcap, hcapm, ?_, .inr ⟨Nat.le_refl _, by simp⟩, fun q u hu => ?_⟩⟩
        · simp only [Array.size_append, List.size_toArray, size_zeroCells, hsz, hnl, ← Nat.add_mul]
          exact Nat.mul_le_mul_right _ (by omega)
        · rw [List.nil_append] at hu
          have hq := (List.getElem?_eq_some_iff.1 hu).1
          rw [Array.getElem?_append_left (by simpa using hq)]
          simpa using hu
  · have hle : n * i.size ≤ arr.size := Nat.le_trans (Nat.mul_le_mul_right _ h1) h4
    have hol : (arr.toList.take (n * i.size)).length = n * i.size := by simp; omega
    have hold : ∀ (q : Nat) (u : Value), (arr.toList.take (n * i.size))[q]? = some u → arr[q]? = some u := by
      intro q u hu
      rw [List.getElem?_take] at hu
      split at hu
      · simpa using hu
      · cases hu
    cases A with
    | none =>
      have hm := hA rfl
      subst hm
      have hr := run_append_none (P := P) (w := w) t ty e i ht hi (some ⟨b, 0, none⟩) n cap c h1
      refine ⟨_, _, noF, hr, Off.refl _ _, fun q hq => hq.elim, .inr ⟨b, cap, arr, e', rfl, h3, h1, h2, h4, .inl rfl, fun q u hu => ?_⟩⟩
      rw [hn0 rfl, List.append_nil] at hu
      exact hold q u hu
    | some ad =>
      by_cases hroom : n + m ≤ cap
      · have hfit0 : (n + m) * i.size ≤ arr.size := Nat.le_trans (Nat.mul_le_mul_right _ hroom) h4
        have hfit : n * i.size + news.length ≤ arr.size := by rw [hnl, ← Nat.add_mul]; exact hfit0
        have hr := run_append_room' (P := P) (w := w) t ty e e' i ht hi b n cap arr h3 ad m c news hnl (hnews ad rfl) hone hroom hfit
        have hset := setRow_heap w b arr (arr.toList.take (n * i.size) ++ news ++ arr.toList.drop (n * i.size + news.length)).toArray e' (0, 0) h3
        have hsz2 : (arr.toList.take (n * i.size) ++ news ++ arr.toList.drop (n * i.size + news.length)).toArray.size = arr.size := by simp; omega
        refine ⟨_, _, fun q => q = b, hr, off_setRow w b arr _ e' h3 hsz2, fun q hq => by rw [hq], .inr ⟨b, cap, _, e', rfl, hset, hroom, h2, by rw [hsz2]; exact h4, .inl rfl, fun q u hu => ?_⟩⟩
        have hq := (List.getElem?_eq_some_iff.1 hu).1
        rw [List.getElem?_toArray, List.getElem?_append_left hq]
        exact hu
      · have hr := run_append_grow (P := P) w t ty e i z ht hi hz ⟨b, 0, none⟩ n cap _ hol (fun j u hu => by
          rw [add_lit, Nat.zero_add, cell_of w h3]; exact hold j u hu) ad m c news hnl (hnews ad rfl) (by omega) (by unfold maxLen at hlen; omega) (growslice_fits (by omega) hbig)
        have hcap := grownCap_ge w (n + m) cap e
        have hcapm := grownCap_le_maxLen w (n + m) cap e hlen
        have hnew := heap_alloc_new w.drew (.cells ((arr.toList.take (n * i.size)).toArray ++ news.toArray ++ Builtin.zeroCells z.cells (grownCap w (n + m) cap e - (n + m))) e)
        refine ⟨_, _, noF, hr, (Off.refl noF w).drew.alloc _, fun q hq => hq.elim, .inr ⟨w.heap.size, _, _, e, rfl, hnew, hcap, hcapm, ?_, .inr ⟨Nat.le_refl _, by simp⟩, fun q u hu => ?_⟩⟩
        · simp only [Array.size_append, List.size_toArray, size_zeroCells, hsz, hnl, hol, ← Nat.add_mul]
          exact Nat.mul_le_mul_right _ (by omega)
        · have hq := (List.getElem?_eq_some_iff.1 hu).1
          rw [Array.getElem?_append_left (by simpa using hq)]
          rw [← hu, ← Array.getElem?_toList]
          simp

/-- Behind an append: the slice lies where the view says. -/
theorem Repr.append (h : Repr g s a w blk) (fl : Bool) {t k : Nat} {ids : List Nat} {rows new : List (List C)} {olds news : List Value} {w' : World} {X : Nat → Prop} {Fo Fn : Nat → Nat → Nat → Prop} {r : Value} {hb : Option Nat}
    (ht : t ∈ ids ∨ s.objs t = .none) (hol : olds.length = rows.length * k) (hro : ∀ r, r ∈ rows → r.length = k) (hrn : ∀ r, r ∈ new → r.length = k)
    (ho : ∀ (i : Nat) (r : List C) (j : Nat) (c : C), rows[i]? = some r → r[j]? = some c → ∃ u, olds[i * k + j]? = some u ∧ CellR fl w (Good g s.objs blk w) u c (Fo i j))
    (hn : ∀ (i : Nat) (r : List C) (j : Nat) (c : C), new[i]? = some r → r[j]? = some c → ∃ u, news[i * k + j]? = some u ∧ CellR fl w (Good g s.objs blk w) u c (Fn i j))
    (hbo : ∀ q, hb = some q → ∃ i0, i0 ∈ ids ∧ s.objs i0 ≠ .none ∧ blk.root i0 = some q)
    (hFo : ∀ i j x, Fo i j x → ∃ i0, i0 ∈ ids ∧ s.objs i0 ≠ .none ∧ blk.sub i0 x) (hFn : ∀ i j x, Fn i j x → ∃ i0, i0 ∈ ids ∧ s.objs i0 ≠ .none ∧ blk.sub i0 x)
    (dOO : ∀ i j i' j' x, Fo i j x → Fo i' j' x → i = i' ∧ j = j') (dNN : ∀ i j i' j' x, Fn i j x → Fn i' j' x → i = i' ∧ j = j') (dON : ∀ i j i' j' x, Fo i j x → Fn i' j' x → False)
    (hoff : Off X w w') (hX : ∀ q, X q → hb = some q)
    (hview : (hb = none ∧ (∃ A0, r = .slice A0 0 0) ∧ rows.length + new.length = 0 ∧ w' = w) ∨ ∃ b' cap' arr' e'', r = .slice (some ⟨b', 0, none⟩) (rows.length + new.length) cap' ∧ w'.heap[b']? = some (.cells arr' e'' (0, 0)) ∧ rows.length + new.length ≤ cap' ∧ cap' ≤ maxLen ∧ cap' * k ≤ arr'.size ∧
        (hb = some b' ∨ (w.heap.size ≤ b' ∧ b' < w'.heap.size)) ∧ ∀ (q : Nat) (u : Value), (olds ++ news)[q]? = some u → arr'[q]? = some u) :
    ∃ L' : Lay, Repr g ⟨fun q => (s.env q).kills ids, upd t (mkO fl k (rows ++ new)) (s.drops ids).objs⟩ a w' L' ∧
      ∀ G' (O' : Nat → Obj), O' t = mkO fl k (rows ++ new) → RV w' G' O' L' r (.own t k (rows.length + new.length)) := by
  have hup : ∀ (o' : Obj) j, upd t o' (s.drops ids).objs j = if j = t then o' else (s.drops ids).objs j := fun _ _ => rfl
  have hsub : ∀ x, (∃ i0, i0 ∈ ids ∧ s.objs i0 ≠ .none ∧ blk.sub i0 x) → x < w.heap.size ∧ ¬ X x ∧ ∀ q, hb = some q → x ≠ q := by
    rintro x ⟨i0, m1, m2, m3⟩
    have hq : ∀ q, hb = some q → x ≠ q := by
      rintro q hq rfl
      obtain ⟨i1, n1, n2, n3⟩ := hbo x hq
      have := h.inj i0 i1 x m2 n2 (.inr m3) (.inl n3)
      subst this
      exact h.apart i0 x m2 n3 m3
    exact ⟨(h.new i0 x m2 (.inr m3)).2, fun hx => hq x (hX x hx) rfl, hq⟩
  have common : ∀ (root : Option Nat) (S : Nat → Prop),
      (∀ x, (root = some x ∨ S x) → (∃ i0, i0 ∈ ids ∧ s.objs i0 ≠ .none ∧ blk.fp i0 x) ∨ (w.heap.size ≤ x ∧ x < w'.heap.size)) → (∀ x, root = some x → ¬ S x) →
      (∀ G' objs', Keeps w w' (Good g s.objs blk w) G' (dropsO s.objs ids) objs' blk (blk.upd t root S) → ObjOk w' G' objs' (blk.upd t root S) S root (mkO fl k (rows ++ new))) →
      Repr g ⟨fun q => (s.env q).kills ids, upd t (mkO fl k (rows ++ new)) (s.drops ids).objs⟩ a w' (blk.upd t root S) := by
    intro root S horg hap hok
    refine h.turn ids (fun j => j = t) hoff (fun y hy => ?_) (fun j hj => ?_) (fun j y hj _ hf => ?_) (fun j j' y hj hj' _ _ _ _ => hj.trans hj'.symm) (fun j y hj _ hr' => ?_) (fun j hj hm hl => ?_) (fun j k' v' rows' hj hm hk => ?_) (fun G' K j hj => ?_)
    · obtain ⟨i0, m1, m2, m3⟩ := hbo y (hX y hy)
      exact ⟨i0, .inr m1, m2, .inl m3⟩
    · exact ⟨by rw [hup, if_neg hj, St.drops_objs], by rw [Lay.upd_root, if_neg hj], by rw [Lay.upd_sub, if_neg hj]⟩
    · subst hj
      rw [Lay.upd_fp, if_pos rfl] at hf
      rcases horg y hf with ⟨i0, m1, m2, m3⟩ | h2
      · exact .inl ⟨i0, .inr m1, m2, m3⟩
      · exact .inr h2
    · subst hj
      rw [Lay.upd_root, if_pos rfl] at hr'
      rw [Lay.upd_sub, if_pos rfl]
      exact hap y hr'
    · subst hj; exact absurd (ht.resolve_left hm) hl
    · subst hj; rw [ht.resolve_left hm] at hk; cases hk
    · subst hj
      rw [hup, if_pos rfl, Lay.upd_root, if_pos rfl, Lay.upd_sub, if_pos rfl]
      exact hok _ _ K
  rcases hview with ⟨hbn, ⟨A0, rfl⟩, h0, rfl⟩ | ⟨b', cap', arr', e'', rfl, v1, v2, v3, v4, v5, v6⟩
  · have hr0 : rows = [] := List.eq_nil_of_length_eq_zero (by omega)
    have hn0 : new = [] := List.eq_nil_of_length_eq_zero (by omega)
    subst hr0; subst hn0
    refine ⟨blk.upd t none noF, common none noF (fun x hx => hx.elim (fun h => by cases h) (fun h => h.elim)) (fun x hx => by cases hx) (fun G' objs' K => ?_), fun G' O' hO => ?_⟩
    · cases fl
      · exact .inl ⟨rfl, rfl⟩
      · exact .inl ⟨rfl, rfl⟩
    · exact ⟨0, by rw [hO, mkO_dims]; rfl, by simp, .inl ⟨by show (blk.upd _ _ _).root t = _; rw [Lay.upd_root, if_pos rfl], rfl, A0, rfl⟩⟩
  · have hb'ne : ∀ x, (∃ i0, i0 ∈ ids ∧ s.objs i0 ≠ .none ∧ blk.sub i0 x) → x ≠ b' := by
      rintro x hx rfl
      rcases v5 with h5 | h5
      · exact (hsub x hx).2.2 x h5 rfl
      · have := (hsub x hx).1; omega
    let Fs : Nat → Nat → Nat → Prop := fun i j => if i < rows.length then Fo i j else Fn (i - rows.length) j
    have hFs : ∀ i j x, Fs i j x → ∃ i0, i0 ∈ ids ∧ s.objs i0 ≠ .none ∧ blk.sub i0 x := by
      intro i j x hx
      simp only [Fs] at hx
      split at hx
      · exact hFo _ _ _ hx
      · exact hFn _ _ _ hx
    have cells : ∀ (i : Nat) (r : List C), (rows ++ new)[i]? = some r → ∀ (j : Nat) (c : C), r[j]? = some c → ∃ u, arr'[i * k + j]? = some u ∧ CellR fl w (Good g s.objs blk w) u c (Fs i j) := by
      intro i r hr j c hc
      by_cases hi : i < rows.length
      · rw [List.getElem?_append_left hi] at hr
        obtain ⟨u, hu, hru⟩ := ho i r j c hr hc
        have hq := (List.getElem?_eq_some_iff.1 hu).1
        exact ⟨u, v6 _ u (by rw [List.getElem?_append_left hq]; exact hu), by simp only [Fs]; rw [if_pos hi]; exact hru⟩
      · rw [List.getElem?_append_right (by omega)] at hr
        obtain ⟨u, hu, hru⟩ := hn _ r j c hr hc
        have e1 : i * k + j = olds.length + ((i - rows.length) * k + j) := by
          rw [hol, Nat.sub_mul]
          have : rows.length * k ≤ i * k := Nat.mul_le_mul_right _ (by omega)
          omega
        exact ⟨u, v6 _ u (by rw [e1, List.getElem?_append_right (by omega), Nat.add_sub_cancel_left]; exact hu), by simp only [Fs]; rw [if_neg hi]; exact hru⟩
    have lens : ∀ r, r ∈ rows ++ new → r.length = k := by
      intro r hr
      rcases List.mem_append.1 hr with h1 | h1
      · exact hro r h1
      · exact hrn r h1
    have hsz : (rows ++ new).length * k ≤ arr'.size := Nat.le_trans (Nat.mul_le_mul_right _ (by rw [List.length_append]; exact v2)) v4
    refine ⟨blk.upd t (some b') (fun x => ∃ i0, i0 ∈ ids ∧ s.objs i0 ≠ .none ∧ blk.sub i0 x), common (some b') _ (fun x hx => ?_) (fun x hx hs => by cases hx; exact hb'ne _ hs rfl) (fun G' objs' K => ?_), fun G' O' hO => ?_⟩
    · rcases hx with hx | ⟨i0, m1, m2, m3⟩
      · cases hx
        rcases v5 with h5 | h5
        · obtain ⟨i0, m1, m2, m3⟩ := hbo _ h5
          exact .inl ⟨i0, m1, m2, .inl m3⟩
        · exact .inr h5
      · exact .inl ⟨i0, m1, m2, .inr m3⟩
    · cases fl
      · refine .inr ⟨b', arr', e'', rfl, v1, hsz, lens, fun i j => (arr'[i * k + j]?).getD undef, Fs, fun i j x hx => ⟨hFs i j x hx, hb'ne x (hFs i j x hx)⟩, fun i j i' j' x hx hx' => ?_, fun i r hr j c hc => ?_, fun i r hr j c hc => ?_⟩
        · simp only [Fs] at hx hx'
          split at hx <;> split at hx'
          · exact dOO _ _ _ _ x hx hx'
          · exact (dON _ _ _ _ x hx hx').elim
          · exact (dON _ _ _ _ x hx' hx).elim
          · have := dNN _ _ _ _ x hx hx'; omega
        · obtain ⟨u, hu, _⟩ := cells i r hr j c hc
          dsimp only; rw [hu]; rfl
        · obtain ⟨u, hu, hru⟩ := cells i r hr j c hc
          dsimp only; rw [hu]
          exact (CellR.ot hru).mono K.good K.cell (fun _ h => h) fun x hx => hoff.block x (hsub x (hFs i j x hx)).1 (hsub x (hFs i j x hx)).2.1
      · refine .inr ⟨b', arr', e'', rfl, v1, hsz, lens, fun i r j c hr hc => ?_⟩
        obtain ⟨u, hu, hru⟩ := cells i r hr j c hc
        exact ⟨u, hu, Rd.mono hru K.good K.cell⟩
    · exact ⟨rows.length + new.length, by rw [hO, mkO_dims, List.length_append], Nat.le_refl _, .inr ⟨b', cap', arr', e'', by show (blk.upd _ _ _).root t = _; rw [Lay.upd_root, if_pos rfl], rfl, v2, v3, v1, v4⟩⟩

theorem rows_one {fl : Bool} {G : Nat → Prop} {k : Nat} {new : List (List C)} {news : List Value} {Fn : Nat → Nat → Nat → Prop} (n1 : news.length = new.length * k) (hrn : ∀ r, r ∈ new → r.length = k)
    (n3 : ∀ (i : Nat) (r : List C) (j : Nat) (c : C), new[i]? = some r → r[j]? = some c → ∃ u, news[i * k + j]? = some u ∧ CellR fl w G u c (Fn i j)) : ∀ u ∈ news, u.oneCell' = true := by
  intro u hu
  obtain ⟨j, hj⟩ := List.getElem?_of_mem hu
  have hj1 : j < new.length * k := by rw [← n1]; exact (List.getElem?_eq_some_iff.1 hj).1
  have hk : 0 < k := by rcases Nat.eq_zero_or_pos k with e0 | e0; · rw [e0] at hj1; omega
                        · exact e0
  have hq : j / k < new.length := Nat.div_lt_of_lt_mul (by rw [Nat.mul_comm]; exact hj1)
  have hm : j % k < (new[j / k]).length := by rw [hrn _ (List.getElem_mem hq)]; exact Nat.mod_lt _ hk
  obtain ⟨u', hu', hru⟩ := n3 _ _ (j % k) _ (List.getElem?_eq_getElem hq) (List.getElem?_eq_getElem hm)
  rw [show j / k * k + j % k = j from by rw [Nat.mul_comm]; exact Nat.div_add_mod j k, hj] at hu'
  cases hu'
  exact hru.ot.one

/-- The news of a source. -/
theorem SrcOk.news {fl : Bool} {G : Nat → Prop} {v : Value} {k : Nat} {new : List (List C)} {Fn : Nat → Nat → Nat → Prop} (h : SrcOk fl w G v k new Fn) :
    ∃ A c, ∃ news : List Value, v = .slice A new.length c ∧ (A = none → new.length = 0) ∧ (A = none → news = []) ∧ news.length = new.length * k ∧ (∀ ad, A = some ad → ∀ j u, news[j]? = some u → w.cell? (ad.add j) = some u) ∧ (∀ u ∈ news, u.oneCell' = true) ∧ (∀ r, r ∈ new → r.length = k) ∧
      ∀ (i : Nat) (r : List C) (j : Nat) (c : C), new[i]? = some r → r[j]? = some c → ∃ u, news[i * k + j]? = some u ∧ CellR fl w G u c (Fn i j) := by
  obtain ⟨A, c, hv, h0, hrn, hA⟩ := h
  cases A with
  | none =>
    have := h0 rfl
    subst this
    exact ⟨none, c, [], hv, fun _ => rfl, fun _ => rfl, by simp, fun ad e => (by cases e), by simp, hrn, fun i r j c hr => by simp at hr⟩
  | some ad =>
    obtain ⟨news, n1, n2, n3⟩ := hA ad rfl
    exact ⟨some ad, c, news, hv, fun e => (by cases e), fun e => (by cases e), n1, fun ad' e => (by cases e; exact n2), rows_one n1 hrn n3, hrn, n3⟩

/-- The cells of a slice of the call's own. -/
theorem own_list (h : Repr g s a w blk) {id k n : Nat} {v : Value} (hv : RVs g s w blk v (.own id k n)) {rows : List (List C)} (fl : Bool) (hO : s.ob id = .row k rows ∨ (fl = false ∧ ∃ ver, s.ob id = .tr k ver rows)) (hn : n = rows.length) :
    ∃ (hb : Option Nat) (olds : List Value) (Fo : Nat → Nat → Nat → Prop), ((hb = none ∧ (∃ A0, v = .slice A0 0 0) ∧ n = 0 ∧ olds = []) ∨ ∃ b cap arr e', hb = some b ∧ v = .slice (some ⟨b, 0, none⟩) n cap ∧ w.heap[b]? = some (.cells arr e' (0, 0)) ∧ n ≤ cap ∧ cap ≤ maxLen ∧ cap * k ≤ arr.size ∧ olds = arr.toList.take (n * k)) ∧
      olds.length = rows.length * k ∧ (∀ r, r ∈ rows → r.length = k) ∧ (∀ (i : Nat) (r : List C) (j : Nat) (c : C), rows[i]? = some r → r[j]? = some c → ∃ u, olds[i * k + j]? = some u ∧ CellR fl w (Good g s.objs blk w) u c (Fo i j)) ∧
      (∀ q, hb = some q → blk.root id = some q) ∧ (∀ i j x, Fo i j x → blk.sub id x) ∧ (∀ i j i' j' x, Fo i j x → Fo i' j' x → i = i' ∧ j = j') := by
  subst hn
  obtain ⟨m, hdim, hn, hval⟩ := hv
  rcases hval with ⟨hb, h0, A0, rfl⟩ | ⟨b, cap, arr, e, hb, rfl, h1, h2, h3, h4⟩
  · have : rows = [] := List.eq_nil_of_length_eq_zero h0
    subst this
    exact ⟨none, [], fun _ _ => noF, .inl ⟨rfl, ⟨A0, rfl⟩, rfl, rfl⟩, by simp, by simp, fun i r j c hr => by simp at hr, fun q hq => (by cases hq), fun _ _ _ h => h.elim, fun _ _ _ _ _ h => h.elim⟩
  · have hle : rows.length * k ≤ arr.size := Nat.le_trans (Nat.mul_le_mul_right _ h1) h4
    have get : ∀ (i : Nat) (r : List C) (j : Nat) (c : C) (u : Value), rows[i]? = some r → r[j]? = some c → r.length = k → arr[i * k + j]? = some u → (arr.toList.take (rows.length * k))[i * k + j]? = some u := by
      intro i r j c u hr hc hk hu
      have hi2 : i < rows.length := (List.getElem?_eq_some_iff.1 hr).1
      have hj2 : j < k := by rw [← hk]; exact (List.getElem?_eq_some_iff.1 hc).1
      have h5 : (i + 1) * k ≤ rows.length * k := Nat.mul_le_mul_right _ hi2
      rw [Nat.add_mul, Nat.one_mul] at h5
      rw [List.getElem?_take, if_pos (by omega)]; simpa using hu
    rcases hO with hO | ⟨hfl, ver, hO⟩
    · obtain ⟨arr', e', r1, r2, r3, r4⟩ := h.row hO hb
      rw [h3] at r1; cases r1
      refine ⟨some b, _, fun _ _ => noF, .inr ⟨b, cap, arr, e, rfl, rfl, h3, h1, h2, h4, rfl⟩, by simp; omega, r3, fun i r j c hr hc => ?_, fun q hq => by cases hq; exact hb, fun _ _ _ h => h.elim, fun _ _ _ _ _ h => h.elim⟩
      obtain ⟨u, hu, hru⟩ := r4 i r j c hr hc
      exact ⟨u, get i r j c u hr hc (r3 r (List.mem_of_getElem? hr)) hu, .of_rd hru⟩
    · subst hfl
      obtain ⟨arr', e', r1, r2, r3, vals, Fs, r4, r5, r6, r7⟩ := h.tree hO hb
      rw [h3] at r1; cases r1
      refine ⟨some b, _, Fs, .inr ⟨b, cap, arr, e, rfl, rfl, h3, h1, h2, h4, rfl⟩, by simp; omega, r3, fun i r j c hr hc => ?_, fun q hq => by cases hq; exact hb, fun i j x hx => (r4 i j x hx).1, r5⟩
      exact ⟨_, get i r j c _ hr hc (r3 r (List.mem_of_getElem? hr)) (r6 i r hr j c hc), r7 i r hr j c hc⟩

theorem kills_one (id : Nat) (x : AV) : x.kills [id] = x.kill id := rfl
theorem renew_eq (s : St) (id : Nat) (o : Obj) : (⟨fun q => (s.env q).kills [id], upd id o (s.drops [id]).objs⟩ : St) = s.renew id o := by
  unfold St.renew
  congr 1
  funext i
  unfold upd
  split
  · rfl
  · rename_i hi
    show (s.drop id).objs i = _
    unfold St.drop St.renew upd
    simp [hi]
theorem drop_renew_eq (s : St) (id idy : Nat) (hne : id ≠ idy) (o : Obj) : (⟨fun q => (s.env q).kills [idy, id], upd id o (s.drops [idy, id]).objs⟩ : St) = (s.drop idy).renew id o := by
  unfold St.renew
  congr 1
  funext i
  unfold upd
  split
  · rfl
  · rename_i hi
    show ((s.drop idy).drop id).objs i = _
    conv => lhs; unfold St.drop St.renew upd
    simp [hi, St.drop, St.renew, upd]

/-- A slice that lies in a cell of a tree is taken out: an object of its own. -/
theorem Repr.detach (h : Repr g s a w blk) {id k0 ver : Nat} {rows : List (List C)} (hO : s.ob id = .tr k0 ver rows) {i : Int} {j k n : Nat} {v : Value} (hv : RVs g s w blk v (.sub id ver i j k n)) {c : C} (hc : cellAt rows i.toNat j = some c) (fl : Bool) {rs : List (List C)} (hcs : c = (if fl then .ow k rs else .ot k rs)) {d : Nat} (hd : (s.ob d).isNone = true) :
    ∃ L' : Lay, Repr g ⟨s.env, upd d (mkO fl k rs) (upd id (.tr k0 (ver + 1) (setAt rows i.toNat j .jk)) s.objs)⟩ a w L' ∧ ∀ G' (O' : Nat → Obj), O' d = mkO fl k rs → RV w G' O' L' v (.own d k rs.length) := by
  obtain ⟨q, r, c', A, cap, F, e1, e2, e3, e4, e5, rfl, e6, e7, e8, e9⟩ := h.sub0 hO hv
  obtain ⟨r', f1, f2⟩ := cellAt_some hc
  rw [e3] at f1; cases f1
  rw [e4] at f2; cases f2
  have hO' : s.objs id = .tr k0 ver rows := hO
  have hlive : s.objs id ≠ .none := by rw [hO']; simp
  have hd' : s.objs d = .none := ob_none hd
  have hne : d ≠ id := by rintro rfl; exact hlive hd'
  obtain ⟨arr0, e0, t1, t2, t3, vals0, Fs0, t4, t5, t6, t7⟩ := h.tree hO e1
  have hrl : r.length = k0 := t3 r (List.mem_of_getElem? e3)
  have hjr : j < r.length := (List.getElem?_eq_some_iff.1 e4).1
  have hir : i.toNat < rows.length := (List.getElem?_eq_some_iff.1 e3).1
  have hgr : rows.getD i.toNat [] = r := by simp [List.getD, e3]
  have hcell := t6 _ _ e3 _ _ e4
  rw [cell_of w t1, hcell] at e2
  have hot := t7 _ _ e3 _ _ e4
  rw [Option.some.inj e2] at hot
  -- the block of the slice, and what its cells own
  obtain ⟨root, S, hrS, hobj, hrv⟩ : ∃ (root : Option Nat) (S : Nat → Prop), (∀ x, (root = some x ∨ S x) → Fs0 i.toNat j x) ∧
      (∀ G' (O' : Nat → Obj) (bl : Nat → Option Nat), (∀ b, Good g s.objs blk w b → G' b) → (∀ x, root = some x → ¬ S x) ∧ ObjOk w G' O' bl S root (mkO fl k rs)) ∧
      (∀ G' (O' : Nat → Obj) (bl : Nat → Option Nat), O' d = mkO fl k rs → bl d = root → RV w G' O' bl (.slice A n cap) (.own d k rs.length)) := by
    have hnl : n = rs.length := by subst hcs; cases fl <;> simp [C.sz] at e5 <;> omega
    cases fl with
    | true =>
      simp only [if_true] at hcs
      subst hcs
      cases hot with
      | sh h => cases h
      | ow0 =>
        exact ⟨none, noF, fun x hx => hx.elim (fun h => by cases h) (fun h => h.elim), fun G' O' bl _ => ⟨fun x hx => (by cases hx), .inl ⟨rfl, rfl⟩⟩, fun G' O' bl hO hb => ⟨0, by rw [hO]; rfl, Nat.le_refl _, .inl ⟨hb, rfl, _, rfl⟩⟩⟩
      | ow vals h1 h2 h3 h4 h5 h6 h7 h8 h9 =>
        rename_i b arr e
        subst h2
        refine ⟨some b, noF, fun x hx => hx.elim (fun h => by cases h; exact h7) (fun h => h.elim), fun G' O' bl hG => ⟨fun x hx h => h, .inr ⟨b, arr, e, rfl, h1, Nat.le_trans (Nat.mul_le_mul_right _ h3) h5, h6, fun i r j c hr hc => ⟨_, h8 i r hr j c hc, (h9 i r hr j c hc).mono hG (fun _ _ _ h => h)⟩⟩⟩, fun G' O' bl hO hb => ?_⟩
        exact ⟨rs.length, by rw [hO]; rfl, Nat.le_refl _, .inr ⟨b, cap, arr, e, hb, rfl, h3, h4, h1, h5⟩⟩
    | false =>
      simp only [if_false, Bool.false_eq_true] at hcs
      subst hcs
      cases hot with
      | sh h => cases h
      | ot0 =>
        exact ⟨none, noF, fun x hx => hx.elim (fun h => by cases h) (fun h => h.elim), fun G' O' bl _ => ⟨fun x hx => (by cases hx), .inl ⟨rfl, rfl⟩⟩, fun G' O' bl hO hb => ⟨0, by rw [hO]; rfl, Nat.le_refl _, .inl ⟨hb, rfl, _, rfl⟩⟩⟩
      | ot vals Fs h1 h2 h3 h4 h5 h6 h7 h8 h9 h10 h11 =>
        rename_i b arr e
        subst h2
        refine ⟨some b, fun x => ∃ i j, Fs i j x, fun x hx => ?_, fun G' O' bl hG => ⟨fun x hx ⟨i, j, hs⟩ => ?_, .inr ⟨b, arr, e, rfl, h1, Nat.le_trans (Nat.mul_le_mul_right _ h3) h5, h6, vals, Fs, fun i j x hx => ⟨⟨i, j, hx⟩, (h8 i j x hx).2⟩, h9, h10, fun i r hr j c hc => (h11 i r hr j c hc).mono hG (fun _ _ _ h => h) (fun _ h => h) (fun _ _ => rfl)⟩⟩, fun G' O' bl hO hb => ?_⟩
        · rcases hx with hx | ⟨i, j, hs⟩
          · cases hx; exact h7
          · exact (h8 i j x hs).1
        · cases hx; exact (h8 i j _ hs).2 rfl
        · exact ⟨rs.length, by rw [hO]; rfl, Nat.le_refl _, .inr ⟨b, cap, arr, e, hb, rfl, h3, h4, h1, h5⟩⟩
  have hup : ∀ x, upd d (mkO fl k rs) (upd id (.tr k0 (ver + 1) (setAt rows i.toNat j .jk)) s.objs) x = if x = d then mkO fl k rs else if x = id then .tr k0 (ver + 1) (setAt rows i.toNat j .jk) else s.objs x := fun _ => rfl
  let L' : Lay := (blk.upd id (blk.root id) (fun x => blk.sub id x ∧ ¬ Fs0 i.toNat j x)).upd d root S
  have Ld : L'.root d = root ∧ L'.sub d = S := ⟨by simp only [L']; rw [Lay.upd_root, if_pos rfl], by simp only [L']; rw [Lay.upd_sub, if_pos rfl]⟩
  have Li : L'.root id = blk.root id ∧ L'.sub id = fun x => blk.sub id x ∧ ¬ Fs0 i.toNat j x := ⟨by simp only [L']; rw [Lay.upd_root, if_neg (Ne.symm hne), Lay.upd_root, if_pos rfl], by simp only [L']; rw [Lay.upd_sub, if_neg (Ne.symm hne), Lay.upd_sub, if_pos rfl]⟩
  have hFsub : ∀ x, Fs0 i.toNat j x → blk.sub id x := fun x hx => (t4 _ _ x hx).1
  refine ⟨L', h.turn [] (fun x => x = d ∨ x = id) (Off.refl noF w) (fun x hx => hx.elim) (fun x hx => ?_) (fun x y hx _ hf => ?_) (fun x y z hx hy hlx hly hfx hfy => ?_) (fun x y hx _ hr => ?_) (fun x hx _ hl => ?_) (fun x k' v' rows' hx _ hk => ?_) (fun G' K x hx => ?_), fun G' O' hO => hrv G' O' L' hO Ld.1⟩
  · have h1 : x ≠ d := fun e => hx (.inl e)
    have h2 : x ≠ id := fun e => hx (.inr e)
    refine ⟨by rw [hup, if_neg h1, if_neg h2]; simp [Obj.kills_nil], ?_, ?_⟩
    · simp only [L']; rw [Lay.upd_root, if_neg h1, Lay.upd_root, if_neg h2]
    · simp only [L']; rw [Lay.upd_sub, if_neg h1, Lay.upd_sub, if_neg h2]
  · refine .inl ⟨id, .inl (.inr rfl), hlive, ?_⟩
    rcases hx with rfl | rfl
    · unfold Lay.fp at hf
      rw [Ld.1, Ld.2] at hf
      exact .inr (hFsub y (hrS y hf))
    · unfold Lay.fp at hf
      rw [Li.1, Li.2] at hf
      rcases hf with hf | hf
      · exact .inl hf
      · exact .inr hf.1
  · have cross : L'.fp d z → L'.fp id z → False := by
      intro h1 h2
      unfold Lay.fp at h1 h2
      rw [Ld.1, Ld.2] at h1
      rw [Li.1, Li.2] at h2
      have hz := hrS z h1
      rcases h2 with h2 | h2
      · exact h.apart id z hlive h2 (hFsub z hz)
      · exact h2.2 hz
    rcases hx with rfl | rfl <;> rcases hy with rfl | rfl
    · rfl
    · exact (cross hfx hfy).elim
    · exact (cross hfy hfx).elim
    · rfl
  · rcases hx with rfl | rfl
    · rw [Ld.1] at hr; rw [Ld.2]
      exact (hobj (Good g s.objs blk w) s.objs blk (fun _ h => h)).1 y hr
    · rw [Li.1] at hr; rw [Li.2]
      exact fun hs => h.apart x y hlive hr hs.1
  · rcases hx with rfl | rfl
    · exact absurd hd' hl
    · rw [hup, if_neg (Ne.symm hne), if_pos rfl, hO', Li.1]
      exact ⟨⟨rfl, by simp [setAt], by omega, fun e => by omega⟩, rfl⟩
  · rcases hx with rfl | rfl
    · rw [hd'] at hk; cases hk
    · rw [hup, if_neg (Ne.symm hne), if_pos rfl]
      rw [hO'] at hk; cases hk
      intro e; cases e
  · rcases hx with rfl | rfl
    · rw [hup, if_pos rfl, Ld.1, Ld.2]
      exact (hobj _ _ _ K.good).2
    · rw [hup, if_neg (Ne.symm hne), if_pos rfl, Li.1, Li.2, e1]
      refine .inr ⟨q, arr0, e0, rfl, t1, by simpa [setAt] using t2, fun r2 hr2 => ?_, vals0, fun i2 j2 x => Fs0 i2 j2 x ∧ ¬ (i2 = i.toNat ∧ j2 = j), fun i2 j2 x hx => ⟨⟨(t4 _ _ x hx.1).1, fun hs => hx.2 (t5 _ _ _ _ x hx.1 hs)⟩, (t4 _ _ x hx.1).2⟩, fun i2 j2 i3 j3 x hx hx' => t5 _ _ _ _ x hx.1 hx'.1, fun i2 r2 hr2 j2 c2 hc2 => ?_, fun i2 r2 hr2 j2 c2 hc2 => ?_⟩
      · rcases List.mem_or_eq_of_mem_set hr2 with h5 | h5
        · exact t3 r2 h5
        · rw [h5, List.length_set, hgr]; exact hrl
      · unfold setAt at hr2
        rw [List.getElem?_set] at hr2
        by_cases e2 : i.toNat = i2
        · subst e2
          rw [if_pos rfl, if_pos hir] at hr2
          cases hr2
          rw [hgr, List.getElem?_set] at hc2
          by_cases e3' : j = j2
          · subst e3'; exact hcell
          · rw [if_neg e3'] at hc2
            exact t6 _ _ e3 _ _ hc2
        · rw [if_neg e2] at hr2
          exact t6 _ _ hr2 _ _ hc2
      · have other : ∀ {i2 j2 : Nat} {r2 : List C} {c2 : C}, rows[i2]? = some r2 → r2[j2]? = some c2 → ¬ (i2 = i.toNat ∧ j2 = j) → OT w G' (vals0 i2 j2) c2 (fun x => Fs0 i2 j2 x ∧ ¬ (i2 = i.toNat ∧ j2 = j)) := by
          intro i2 j2 r2 c2 hr2 hc2 hne
          exact (t7 _ _ hr2 _ _ hc2).mono K.good K.cell (fun x hx => ⟨hx, hne⟩) fun y hy => rfl
        unfold setAt at hr2
        rw [List.getElem?_set] at hr2
        by_cases e2' : i.toNat = i2
        · subst e2'
          rw [if_pos rfl, if_pos hir] at hr2
          cases hr2
          rw [hgr, List.getElem?_set] at hc2
          by_cases e3' : j = j2
          · subst e3'
            rw [if_pos rfl, if_pos hjr] at hc2
            cases hc2
            have := t7 _ _ e3 _ _ e4
            exact .jk this.one this.cells
          · rw [if_neg e3'] at hc2
            exact other e3 hc2 (fun h => e3' h.2.symm)
        · rw [if_neg e2'] at hr2
          exact other hr2 hc2 (fun h => e2' h.1.symm)

theorem app_ok (h : Repr g s a w blk) (hd : ∀ i, o.dst = some i → i < g.N) {t e : TypeId} {i : TypeInfo} {z : Value} {p q : Operand} {xp xq : X} (ho : o.op = .call { callee := .builtin .append, args := #[p, q], argTypes := #[t, t] })
    (ht : P.underlying t = some (.slice e)) (hi : P.info? e = some i) (hz : i.zero = some z) (hsz : z.cells.size = i.size) (hby : 0 < i.bytes)
    (hp : cxt P t p = some xp) (hq : cxt P t q = some xq) (hK : appP i.size i.bytes s o.dst (s.ev xp) (s.ev xq) K) : OpOk P g o a w K := by
  have ep := h.evt hp; have eq := h.evt hq
  have run : ∀ r w', (Builtin.append_ #[t, t] o.type #[a.eval p, a.eval q]).run P w = .ok r w' → (execOp a.eval o).run P w = .ok (.value r) w' := by
    intro r w' hr
    simp [execOp, ho, resolve, invoke, builtin, hr]
  unfold appP at hK
  split at hK
  · rename_i new hnew
    obtain ⟨A, c, news, hA, n0, n0', n1, n2, n3, n4, n5⟩ := (src_ok h eq hnew).news
    rw [hA] at run
    generalize s.ev xp = vp at hK ep
    generalize a.eval p = v at ep run
    split at hK
    · -- nil
      rename_i kn
      obtain ⟨hb, hK⟩ := hK
      cases ep
      unfold newP at hK
      split at hK
      case h_2 => exact hK.elim
      rename_i d hdst
      obtain ⟨hd0, hK⟩ := hK
      obtain ⟨r, w', X, v1, v2, v3, v4⟩ := app_view (w := w) (ty := o.type) ht hi hz hsz hby (v := .slice none 0 0) (hb := none) (n := 0) (olds := []) (.inl ⟨rfl, ⟨none, rfl⟩, rfl, rfl⟩) n0 n0' n1 n2 n3 (by rw [Nat.zero_add]; exact hb) (c := c)
      obtain ⟨L', hre, hrv⟩ := h.append true (t := d) (ids := []) (rows := []) (olds := []) (Fo := fun _ _ => noF) (Fn := fun _ _ => noF) (.inr (ob_none hd0)) (by simp) (by simp) n4 (fun i r j c hr => by simp at hr) n5 (fun q hq => by cases hq) (fun _ _ _ h => h.elim) (fun _ _ _ h => h.elim) (fun _ _ _ _ _ h => h.elim) (fun _ _ _ _ _ h => h.elim) (fun _ _ _ _ _ h => h.elim) v2 v3 (by simpa using v4)
      refine ⟨_, _, run _ _ v1, _, L', hK, ?_⟩
      have hput := hre.put (d := some d) (v := r) (x := .own d i.size new.length) (by rw [← hdst]; exact hd) (by
        have := hrv (Good g (upd d (mkO true i.size ([] ++ new)) (s.drops []).objs) L' w') (upd d (mkO true i.size ([] ++ new)) (s.drops []).objs) (by simp [upd])
        simp only [List.nil_append, List.length_nil, Nat.zero_add] at this ⊢
        exact this)
      rw [hdst]
      exact hput
    · -- a slice without room behind it
      rename_i k' rows
      obtain ⟨rfl, h0', hb, hK⟩ := hK
      obtain ⟨B, n, rfl, hrd⟩ := ep
      rcases Nat.eq_zero_or_pos new.length with hz0 | h0
      · have hr0 : rows.length = 0 := by omega
        have hn0 : n = 0 := by cases hrd with | sl vals e1 e2 e3 e4 e5 e6 e7 => omega
        subst hn0
        have hnn : new = [] := List.eq_nil_of_length_eq_zero hz0
        have hrr : rows = [] := List.eq_nil_of_length_eq_zero hr0
        subst hnn; subst hrr
        have hr : (Builtin.append_ #[t, t] o.type #[.slice B 0 0, .slice A 0 c]).run P w = .ok (.slice B 0 0) w := by
          cases A with
          | none => exact run_append_none t o.type e i ht hi B 0 0 c (Nat.le_refl _)
          | some ad => exact run_append_empty t o.type e i ht hi B ad c
        unfold newP at hK
        split at hK
        · rename_i d hdst
          obtain ⟨hd0, hK⟩ := hK
          have hv := h.virt (d := d) (k := i.size) true (ob_none hd0)
          refine ⟨_, _, run _ _ hr, _, blk.upd d none noF, hK, ?_⟩
          have hput := hv.put (d := some d) (v := .slice B 0 0) (x := .own d i.size 0) (by rw [← hdst]; exact hd) ⟨0, by simp [upd, mkO, Obj.dims], Nat.le_refl _, .inl ⟨by show (blk.upd _ _ _).root d = _; rw [Lay.upd_root, if_pos rfl], rfl, B, rfl⟩⟩
          rw [hdst]; exact hput
        · exact hK.elim
      cases A with
      | none => have := n0 rfl; omega
      | some ad =>
        have hrows : rows.length = n ∧ (∀ r, r ∈ rows → r.length = i.size) ∧ n ≤ maxLen := by
          cases hrd with
          | sl vals e1 e2 e3 e4 e5 e6 e7 => exact ⟨e1, e4, by omega⟩
        obtain ⟨hrl, hro, hnm⟩ := hrows
        have hlen : rows.length + new.length ≤ maxLen := by
          have := Nat.le_trans (Nat.le_mul_of_pos_right (rows.length + new.length) hby) hb
          unfold maxLen; omega
        have hold : ∃ (bd : Addr) (olds : List Value), (B = some bd ∨ rows = []) ∧ olds.length = rows.length * i.size ∧ (∀ j u, olds[j]? = some u → w.cell? (bd.add j) = some u) ∧
            ∀ (i2 : Nat) (r : List C) (j : Nat) (c : C), rows[i2]? = some r → r[j]? = some c → ∃ u, olds[i2 * i.size + j]? = some u ∧ Rd w (Good g s.objs blk w) u c := by
          cases B with
          | none =>
            have : rows = [] := by
              cases hrd with
              | sl vals e1 e2 e3 e4 e5 e6 e7 =>
                have : ¬ 0 < n := fun hl => by simpa using e5 hl
                exact List.eq_nil_of_length_eq_zero (by omega)
            subst this
            exact ⟨ad, [], .inr rfl, by simp, by simp, fun i2 r j c hr => by simp at hr⟩
          | some bd =>
            obtain ⟨olds, o1, o2, o3⟩ := rd_list hrd
            exact ⟨bd, olds, .inl rfl, by rw [hrl]; exact o1, o2, o3⟩
        obtain ⟨bd, olds, hB, o1, o2, o3⟩ := hold
        have hcap := grownCap_ge w (rows.length + new.length) n e
        have hcapm := grownCap_le_maxLen w (rows.length + new.length) n e hlen
        obtain ⟨a1, a2, a3, a4⟩ := grown_arr (w := w) (G := Good g s.objs blk w) (rows := rows) (olds := olds) (cap := grownCap w (rows.length + new.length) n e) (z := z.cells) o1 n1 hsz hcap hro n4 o3 n5
        have hr : (Builtin.append_ #[t, t] o.type #[.slice B n n, .slice (some ad) new.length c]).run P w = .ok (.slice (some ⟨w.heap.size, 0, none⟩) (rows.length + new.length) (grownCap w (rows.length + new.length) n e))
            (w.drew.alloc (.cells (olds.toArray ++ news.toArray ++ Builtin.zeroCells z.cells (grownCap w (rows.length + new.length) n e - (rows.length + new.length))) e)) := by
          subst hrl
          rcases hB with rfl | rfl
          · exact run_append_grow (P := P) w t o.type e i z ht hi hz bd rows.length rows.length olds o1 o2 ad new.length c news n1 (n2 ad rfl) (by omega) (by unfold maxLen at hlen; omega) (growslice_fits (by omega) hb)
          · cases B with
            | none =>
              have := run_append_nil (P := P) w t o.type e i z ht hi hz ad new.length c news n1 (n2 ad rfl) h0 (by unfold maxLen at hlen; simp at hlen; omega) (by simp at hb; omega)
              have ho : olds = [] := List.eq_nil_of_length_eq_zero (by simpa using o1)
              subst ho
              simpa using this
            | some bd' =>
              have ho : olds = [] := List.eq_nil_of_length_eq_zero (by simpa using o1)
              subst ho
              exact run_append_grow (P := P) w t o.type e i z ht hi hz bd' 0 0 [] (by simp) (by simp) ad new.length c news n1 (n2 ad rfl) (by simpa using h0) (by unfold maxLen at hlen; simp at hlen ⊢; omega) (growslice_fits (by simpa using h0) hb)
        refine new_gen h.drew hd (e := e) (run _ _ hr) ?_ ?_ hK
        · intro w' G' O' blk' KK hh
          exact .inr ⟨_, _, _, rfl, hh, a2, a3, rd_mono_list (w := w) (G := Good g s.objs blk w) (fun u c hr => (Rd.mono (w' := w.drew) hr (fun _ h => h) (fun _ _ _ h => h)).mono KK.good KK.cell) a4⟩
        · intro d G' O' blk' hO hb' hh
          exact ⟨rows.length + new.length, by rw [hO]; simp [Obj.dims], Nat.le_refl _, .inr ⟨_, _, _, _, hb', rfl, hcap, hcapm, hh, by rw [a1]; exact Nat.le_refl _⟩⟩
    · -- a row of the call's own
      rename_i id k' n
      split at hK
      · rename_i k2 rows hO
        obtain ⟨rfl, rfl, hb, hK⟩ := hK
        have hk2 : k2 = i.size := by
          obtain ⟨m, hdim, _⟩ := ep
          have : (s.ob id).dims = some (i.size, m) := hdim
          rw [hO] at this; simp [Obj.dims] at this; exact this.1
        subst hk2
        obtain ⟨hb0, olds, Fo, u1, u2, u3, u4, u5, u6, u7⟩ := own_list h ep true (.inl hO) rfl
        have hlive : s.objs id ≠ .none := by rw [show s.objs id = _ from hO]; simp
        obtain ⟨r, w', X, v1, v2, v3, v4⟩ := app_view (w := w) (ty := o.type) ht hi hz hsz hby u1 n0 n0' n1 n2 n3 hb (c := c)
        obtain ⟨L', hre, hrv⟩ := h.append true (t := id) (ids := [id]) (Fo := fun _ _ => noF) (Fn := fun _ _ => noF) (.inl (by simp)) u2 u3 n4 u4 n5 (fun q hq => ⟨id, by simp, hlive, u5 q hq⟩) (fun _ _ _ h => h.elim) (fun _ _ _ h => h.elim) (fun _ _ _ _ _ h => h.elim) (fun _ _ _ _ _ h => h.elim) (fun _ _ _ _ _ h => h.elim) v2 v3 v4
        rw [renew_eq] at hre
        refine ⟨_, _, run _ _ v1, _, L', hK, hre.put hd (hrv _ _ ?_)⟩
        simp [St.renew, upd, mkO]
      · rename_i k2 ver rows hO
        obtain ⟨rfl, rfl, hb, hK⟩ := hK
        have hk2 : k2 = i.size := by
          obtain ⟨m, hdim, _⟩ := ep
          have : (s.ob id).dims = some (i.size, m) := hdim
          rw [hO] at this; simp [Obj.dims] at this; exact this.1
        subst hk2
        obtain ⟨hb0, olds, Fo, u1, u2, u3, u4, u5, u6, u7⟩ := own_list h ep false (.inr ⟨rfl, ver, hO⟩) rfl
        have hlive : s.objs id ≠ .none := by rw [show s.objs id = _ from hO]; simp
        obtain ⟨r, w', X, v1, v2, v3, v4⟩ := app_view (w := w) (ty := o.type) ht hi hz hsz hby u1 n0 n0' n1 n2 n3 hb (c := c)
        obtain ⟨L', hre, hrv⟩ := h.append false (t := id) (ids := [id]) (Fo := Fo) (Fn := fun _ _ => noF) (.inl (by simp)) u2 u3 n4 u4 (fun i r j c hr hc => let ⟨u, hu, hru⟩ := n5 i r j c hr hc; ⟨u, hu, hru.ot⟩) (fun q hq => ⟨id, by simp, hlive, u5 q hq⟩) (fun i j x hx => ⟨id, by simp, hlive, u6 i j x hx⟩) (fun _ _ _ h => h.elim) u7 (fun _ _ _ _ _ h => h.elim) (fun _ _ _ _ _ _ h => h.elim) v2 v3 v4
        rw [renew_eq] at hre
        refine ⟨_, _, run _ _ v1, _, L', hK, hre.put hd (hrv _ _ ?_)⟩
        simp [St.renew, upd, mkO]
      · exact hK.elim
    · -- a slice in a cell of a tree
      rename_i id ver i' j k' n
      split at hK
      case h_2 => exact hK.elim
      rename_i k0 ver' rows hO
      obtain ⟨rfl, hK⟩ := hK
      have fin : ∀ (fl : Bool) (rs : List (List C)) (cc : C), cellAt rows i'.toNat j = some cc → cc = (if fl then .ow i.size rs else .ot i.size rs) → k' = i.size → (rs.length + new.length) * i.bytes ≤ 140737488355328 → ∀ d, o.dst = some d → (s.ob d).isNone = true →
          K (((s.setOb id (.tr k0 (ver' + 1) (setAt rows i'.toNat j .jk))).renew d (mkO fl i.size (rs ++ new))).put (some d) (.own d i.size (rs.length + new.length))) → OpOk P g o a w K := by
        clear hK
        intro fl rs cc hc hcc hk' hb d hdst hd0 hK
        subst hk'
        obtain ⟨L1, hr1, hrv1⟩ := h.detach hO ep hc fl hcc hd0
        have hrv1 := hrv1 (Good g (upd d (mkO fl i.size rs) (upd id (.tr k0 (ver' + 1) (setAt rows i'.toNat j .jk)) s.objs)) L1 w) (upd d (mkO fl i.size rs) (upd id (.tr k0 (ver' + 1) (setAt rows i'.toNat j .jk)) s.objs)) (by simp [upd])
        have hsrc : srcRows ⟨s.env, upd d (mkO fl i.size rs) (upd id (.tr k0 (ver' + 1) (setAt rows i'.toNat j .jk)) s.objs)⟩ i.size (s.ev xq) = some new := by
          rw [← hnew]
          have hob : ∀ x k3 r3, s.ob x = .row k3 r3 → (⟨s.env, upd d (mkO fl i.size rs) (upd id (.tr k0 (ver' + 1) (setAt rows i'.toNat j .jk)) s.objs)⟩ : St).ob x = .row k3 r3 := by
            intro x k3 r3 hx
            have h1 : x ≠ d := by rintro rfl; rw [ob_none hd0] at hx; cases hx
            have h2 : x ≠ id := by rintro rfl; rw [hO] at hx; cases hx
            show upd d _ _ x = _
            rw [upd_apply, if_neg h1, upd_apply, if_neg h2]; exact hx
          revert hnew
          cases s.ev xq with
          | own x k3 n3 =>
            intro hnew
            simp only [srcRows] at hnew ⊢
            split at hnew
            · rename_i k4 r4 hx; rw [hob x k4 r4 hx]
            · cases hnew
          | cut x k3 l3 n3 =>
            intro hnew
            simp only [srcRows] at hnew ⊢
            split at hnew
            · rename_i k4 r4 hx; rw [hob x k4 r4 hx]
            · cases hnew
          | c y => intro _; cases y <;> rfl
          | _ => intro _; rfl
        have eq1 := hr1.evt hq
        obtain ⟨A', c', news', hA', n0, n0', n1, n2, n3, n4, n5⟩ := (src_ok hr1 eq1 hsrc).news
        rw [hA] at hA'
        cases hA'
        have hlive : (⟨s.env, upd d (mkO fl i.size rs) (upd id (.tr k0 (ver' + 1) (setAt rows i'.toNat j .jk)) s.objs)⟩ : St).objs d ≠ .none := by
          show upd d _ _ d ≠ _
          rw [upd_apply, if_pos rfl]; cases fl <;> simp [mkO]
        obtain ⟨hb0, olds, Fo, u1, u2, u3, u4, u5, u6, u7⟩ := own_list hr1 hrv1 fl (by cases fl with | false => exact .inr ⟨rfl, 0, by simp [St.ob, upd, mkO]⟩ | true => exact .inl (by simp [St.ob, upd, mkO])) rfl
        obtain ⟨r, w', X, v1, v2, v3, v4⟩ := app_view (w := w) (ty := o.type) ht hi hz hsz hby u1 n0 n0' n1 n2 n3 hb (c := c)
        obtain ⟨L', hre, hrv⟩ := hr1.append fl (t := d) (ids := [d]) (Fo := Fo) (Fn := fun _ _ => noF) (.inl (by simp)) u2 u3 n4 u4 (fun i r j c hr hc => let ⟨u, hu, hru⟩ := n5 i r j c hr hc; ⟨u, hu, .of_rd hru⟩) (fun q hq => ⟨d, by simp, hlive, u5 q hq⟩) (fun i j x hx => ⟨d, by simp, hlive, u6 i j x hx⟩) (fun _ _ _ h => h.elim) u7 (fun _ _ _ _ _ h => h.elim) (fun _ _ _ _ _ _ h => h.elim) v2 v3 v4
        rw [renew_eq] at hre
        have hst : (⟨s.env, upd d (mkO fl i.size rs) (upd id (.tr k0 (ver' + 1) (setAt rows i'.toNat j .jk)) s.objs)⟩ : St).renew d (mkO fl i.size (rs ++ new)) = (s.setOb id (.tr k0 (ver' + 1) (setAt rows i'.toNat j .jk))).renew d (mkO fl i.size (rs ++ new)) := by
          unfold St.renew St.setOb
          congr 1
          funext x
          unfold upd
          split
          · rfl
          · rename_i hx; simp only [if_neg hx]
        rw [hst] at hre
        refine ⟨_, _, run _ _ v1, _, L', hK, ?_⟩
        rw [hdst]
        exact hre.put (by rw [← hdst]; exact hd) (hrv _ _ (by simp [St.renew, upd]))
      split at hK
      · rename_i k2 rs hc
        obtain ⟨hk', hk2, hb, hK⟩ := hK
        subst hk2
        split at hK
        · rename_i d hdst
          exact fin true rs _ hc rfl hk' hb d hdst hK.1 hK.2
        · exact hK.elim
      · rename_i k2 rs hc
        obtain ⟨hk', hk2, hb, hK⟩ := hK
        subst hk2
        split at hK
        · rename_i d hdst
          exact fin false rs _ hc rfl hk' hb d hdst hK.1 hK.2
        · exact hK.elim
      · exact hK.elim
    · exact hK.elim
  · split at hK
    case h_2 => exact hK.elim
    rename_i idy new hsrc
    obtain ⟨hly, Fn, hso, hFn, hdn⟩ := srcTr_ok h eq hsrc
    obtain ⟨A, c, news, hA, n0, n0', n1, n2, n3, n4, n5⟩ := hso.news
    rw [hA] at run
    generalize s.ev xp = vp at hK ep
    generalize a.eval p = v at ep run
    split at hK
    · rename_i kn
      obtain ⟨hb, hK⟩ := hK
      cases ep
      unfold newP at hK
      split at hK
      case h_2 => exact hK.elim
      rename_i d hdst
      obtain ⟨hd0, hK⟩ := hK
      have hd1 : d ∈ [idy] ∨ s.objs d = .none := by
        by_cases hdy : d = idy
        · exact .inl (by simp [hdy])
        · refine .inr ?_
          have := ob_none hd0
          rw [show (s.drop idy).ob d = (s.objs d).kill idy by simp [St.drop, St.renew, St.ob, upd, hdy]] at this
          cases hs : s.objs d with
          | none => rfl
          | _ => exact absurd this ((Obj.kill_none idy _).2 (by rw [hs]; simp))
      obtain ⟨r, w', X, v1, v2, v3, v4⟩ := app_view (w := w) (ty := o.type) ht hi hz hsz hby (v := .slice none 0 0) (hb := none) (n := 0) (olds := []) (.inl ⟨rfl, ⟨none, rfl⟩, rfl, rfl⟩) n0 n0' n1 n2 n3 (by rw [Nat.zero_add]; exact hb) (c := c)
      obtain ⟨L', hre, hrv⟩ := h.append false (t := d) (ids := [idy]) (rows := []) (olds := []) (Fo := fun _ _ => noF) (Fn := Fn) hd1 (by simp) (by simp) n4 (fun i r j c hr => by simp at hr) n5 (fun q hq => by cases hq) (fun _ _ _ h => h.elim) (fun i j x hx => ⟨idy, by simp, hly, hFn i j x hx⟩) (fun _ _ _ _ _ h => h.elim) hdn (fun _ _ _ _ _ h => h.elim) v2 v3 (by simpa using v4)
      refine ⟨_, _, run _ _ v1, _, L', hK, ?_⟩
      have hput := hre.put (d := some d) (v := r) (x := .own d i.size new.length) (by rw [← hdst]; exact hd) (by
        have := hrv (Good g (upd d (mkO false i.size ([] ++ new)) (s.drops [idy]).objs) L' w') (upd d (mkO false i.size ([] ++ new)) (s.drops [idy]).objs) (by simp [upd])
        simp only [List.nil_append, List.length_nil, Nat.zero_add] at this ⊢
        exact this)
      rw [hdst]
      exact hput
    · rename_i id k' n
      obtain ⟨hne, hK⟩ := hK
      have fin : ∀ (rows : List (List C)), (s.ob id = .row i.size rows ∨ (false = false ∧ ∃ ver, s.ob id = .tr i.size ver rows)) → s.objs id ≠ .none → k' = i.size → n = rows.length → (rows.length + new.length) * i.bytes ≤ 140737488355328 →
          K (((s.drop idy).renew id (.tr i.size 0 (rows ++ new))).put o.dst (.own id i.size (rows.length + new.length))) → OpOk P g o a w K := by
        clear hK
        intro rows hO hlive hk' hn hb hK
        subst hk'; subst hn
        obtain ⟨hb0, olds, Fo, u1, u2, u3, u4, u5, u6, u7⟩ := own_list h ep false hO rfl
        obtain ⟨r, w', X, v1, v2, v3, v4⟩ := app_view (w := w) (ty := o.type) ht hi hz hsz hby u1 n0 n0' n1 n2 n3 hb (c := c)
        obtain ⟨L', hre, hrv⟩ := h.append false (t := id) (ids := [idy, id]) (Fo := Fo) (Fn := Fn) (.inl (by simp)) u2 u3 n4 u4 n5 (fun q hq => ⟨id, by simp, hlive, u5 q hq⟩) (fun i j x hx => ⟨id, by simp, hlive, u6 i j x hx⟩) (fun i j x hx => ⟨idy, by simp, hly, hFn i j x hx⟩) u7 hdn (fun i j i' j' x hx hx' => hne (h.inj id idy x hlive hly (.inr (u6 i j x hx)) (.inr (hFn i' j' x hx')))) v2 v3 v4
        rw [drop_renew_eq s id idy hne] at hre
        refine ⟨_, _, run _ _ v1, _, L', hK, hre.put hd (hrv _ _ ?_)⟩
        simp [St.renew, upd, mkO]
      split at hK
      · rename_i k2 rows hO
        obtain ⟨rfl, hn, hb, hK⟩ := hK
        have hk2 : k2 = i.size := by
          obtain ⟨m, hdim, _⟩ := ep
          have : (s.ob id).dims = some (i.size, m) := hdim
          rw [hO] at this; simp [Obj.dims] at this; exact this.1
        subst hk2
        exact fin rows (.inl hO) (by rw [show s.objs id = _ from hO]; simp) rfl hn hb hK
      · rename_i k2 ver rows hO
        obtain ⟨rfl, hn, hb, hK⟩ := hK
        have hk2 : k2 = i.size := by
          obtain ⟨m, hdim, _⟩ := ep
          have : (s.ob id).dims = some (i.size, m) := hdim
          rw [hO] at this; simp [Obj.dims] at this; exact this.1
        subst hk2
        exact fin rows (.inr ⟨rfl, ver, hO⟩) (by rw [show s.objs id = _ from hO]; simp) rfl hn hb hK
      · exact hK.elim
    · exact hK.elim

theorem run_copy (w : World) (t ty e : TypeId) (i : TypeInfo) (ht : P.underlying t = some (.slice e)) (hi : P.info? e = some i) {B A : Option Addr} {n bc m c : Nat} {news : List Value} (hl : news.length = min m n * i.size) (h0 : A = none → min m n = 0) (hnews : ∀ ad, A = some ad → ∀ j u, news[j]? = some u → w.cell? (ad.add j) = some u) {w' : World}
    (hst : ∀ b, B = some b → (storeCells b news).run P w = .ok () w') (hB : B = none → w' = w) :
    (Builtin.copy_ #[t, t] ty #[.slice B n bc, .slice A m c]).run P w = .ok (goInt ((min m n : Nat) : Int)) w' := by
  have hmm : Nat.min m n = min m n := rfl
  have hf : (Builtin.firstCells i.size (min m n) (.slice A m c)).run P w = .ok news.toArray w := by
    cases A with
    | none =>
      have := h0 rfl
      have hn : news = [] := List.eq_nil_of_length_eq_zero (by rw [hl, this]; simp)
      subst hn
      simp [Builtin.firstCells, this]
    | some ad => exact run_firstCells_some (P := P) w i.size (min m n) ad m c news hl (hnews ad rfl)
  cases B with
  | none =>
    rw [hB rfl]
    simp [Builtin.copy_, run_underlying ht, sizeOf, typeInfo, hi, Builtin.lenOf, hmm, hf]
  | some b =>
    have := hst b rfl
    simp [Builtin.copy_, run_underlying ht, sizeOf, typeInfo, hi, Builtin.lenOf, hmm, hf, this]

end
end Go.Proofs.Ytenfgllkjgfjpaa
