/- The abstract machine, part 13: append, the instruction. -/
import Derived.Test.YtenfgllkjgfjpaaCore12
set_option linter.all false
namespace Go.Proofs.Ytenfgllkjgfjpaa
open Go.RowKit

section
variable {P : Program} {g : Ghost} {o : Oper} {s : St} {a : Act} {w : World} {blk : Nat → Option Nat} {K : St → Prop}

theorem run_append_room' (t ty e e' : TypeId) (i : TypeInfo) (ht : P.underlying t = some (.slice e)) (hi : P.info? e = some i)
    (q sLen sCap : Nat) (cur : Array Value) (hg : w.heap[q]? = some (.cells cur e' (0, 0)))
    (ad : Addr) (m c : Nat) (news : List Value) (hl : news.length = m * i.size) (hnews : ∀ j u, news[j]? = some u → w.cell? (ad.add j) = some u) (h1 : ∀ u ∈ news, u.oneCell' = true)
    (hroom : sLen + m ≤ sCap) (hfit : sLen * i.size + news.length ≤ cur.size) :
    (Builtin.append_ #[t, t] ty #[.slice (some ⟨q, 0, none⟩) sLen sCap, .slice (some ad) m c]).run P w =
      .ok (.slice (some ⟨q, 0, none⟩) (sLen + m) sCap) (w.setRow q (cur.toList.take (sLen * i.size) ++ news ++ cur.toList.drop (sLen * i.size + news.length)).toArray) := by
  have hf := run_firstCells_some (P := P) w i.size m ad m c news hl hnews
  have hst := run_storeCells_at P q (sLen * i.size) e' news 0 cur w hg (by simpa using hfit) h1
  simp only [Nat.add_zero] at hst
  simp [Builtin.append_, run_underlying ht, sizeOf, typeInfo, hi, Builtin.lenOf, hroom, hf, add_lit, hst]

theorem run_append_none (t ty e : TypeId) (i : TypeInfo) (ht : P.underlying t = some (.slice e)) (hi : P.info? e = some i) (A : Option Addr) (n cap c : Nat) (hn : n ≤ cap) :
    (Builtin.append_ #[t, t] ty #[.slice A n cap, .slice none 0 c]).run P w = .ok (.slice A n cap) w := by
  cases A <;> simp [Builtin.append_, run_underlying ht, sizeOf, typeInfo, hi, Builtin.lenOf, Builtin.firstCells, hn, storeCells]

theorem run_append_empty (t ty e : TypeId) (i : TypeInfo) (ht : P.underlying t = some (.slice e)) (hi : P.info? e = some i) (ad : Addr) (c : Nat) :
    (Builtin.append_ #[t, t] ty #[.slice none 0 0, .slice (some ad) 0 c]).run P w = .ok (.slice none 0 0) w := by
  simp [Builtin.append_, run_underlying ht, sizeOf, typeInfo, hi, Builtin.lenOf, Builtin.firstCells, loadCells, loadCellsFrom]

/-- The cells of two lists of rows, one behind the other, and what comes behind. -/
theorem rows_join {G : Nat → Prop} {k : Nat} {rows new : List (List C)} {olds news rest : List Value} (ho : olds.length = rows.length * k) (h1 : ∀ (i : Nat) (r : List C) (j : Nat) (c : C), rows[i]? = some r → r[j]? = some c → ∃ u, olds[i * k + j]? = some u ∧ Rd w G u c)
    (h2 : ∀ (i : Nat) (r : List C) (j : Nat) (c : C), new[i]? = some r → r[j]? = some c → ∃ u, news[i * k + j]? = some u ∧ Rd w G u c) :
    ∀ (i : Nat) (r : List C) (j : Nat) (c : C), (rows ++ new)[i]? = some r → r[j]? = some c → ∃ u, (olds ++ news ++ rest)[i * k + j]? = some u ∧ Rd w G u c := by
  intro i r j c hr hc
  by_cases hi : i < rows.length
  · rw [List.getElem?_append_left hi] at hr
    obtain ⟨u, hu, hru⟩ := h1 i r j c hr hc
    have : i * k + j < olds.length := (List.getElem?_eq_some_iff.1 hu).1
    exact ⟨u, by rw [List.append_assoc, List.getElem?_append_left this]; exact hu, hru⟩
  · rw [List.getElem?_append_right (by omega)] at hr
    obtain ⟨u, hu, hru⟩ := h2 _ r j c hr hc
    have hlt : (i - rows.length) * k + j < news.length := (List.getElem?_eq_some_iff.1 hu).1
    have e1 : i * k + j = olds.length + ((i - rows.length) * k + j) := by
      rw [ho, Nat.sub_mul]
      have : rows.length * k ≤ i * k := Nat.mul_le_mul_right _ (by omega)
      omega
    refine ⟨u, ?_, hru⟩
    rw [e1, List.append_assoc, List.getElem?_append_right (by omega), Nat.add_sub_cancel_left, List.getElem?_append_left hlt]
    exact hu

theorem grown_arr {G : Nat → Prop} {k : Nat} {rows new : List (List C)} {olds news : List Value} {z : Array Value} {cap : Nat} (ho : olds.length = rows.length * k) (hn : news.length = new.length * k) (hz : z.size = k) (hcap : rows.length + new.length ≤ cap)
    (hro : ∀ r, r ∈ rows → r.length = k) (hrn : ∀ r, r ∈ new → r.length = k)
    (h1 : ∀ (i : Nat) (r : List C) (j : Nat) (c : C), rows[i]? = some r → r[j]? = some c → ∃ u, olds[i * k + j]? = some u ∧ Rd w G u c)
    (h2 : ∀ (i : Nat) (r : List C) (j : Nat) (c : C), new[i]? = some r → r[j]? = some c → ∃ u, news[i * k + j]? = some u ∧ Rd w G u c) :
    (olds.toArray ++ news.toArray ++ Builtin.zeroCells z (cap - (rows.length + new.length))).size = cap * k ∧ (rows ++ new).length * k ≤ (olds.toArray ++ news.toArray ++ Builtin.zeroCells z (cap - (rows.length + new.length))).size ∧
    (∀ r, r ∈ rows ++ new → r.length = k) ∧
    ∀ (i : Nat) (r : List C) (j : Nat) (c : C), (rows ++ new)[i]? = some r → r[j]? = some c → ∃ u, (olds.toArray ++ news.toArray ++ Builtin.zeroCells z (cap - (rows.length + new.length)))[i * k + j]? = some u ∧ Rd w G u c := by
  have hsz : (olds.toArray ++ news.toArray ++ Builtin.zeroCells z (cap - (rows.length + new.length))).size = cap * k := by
    simp only [Array.size_append, List.size_toArray, size_zeroCells, hz, ho, hn, ← Nat.add_mul]
    congr 1; omega
  refine ⟨hsz, ?_, fun r hr => ?_, fun i r j c hr hc => ?_⟩
  · rw [hsz, List.length_append]; exact Nat.mul_le_mul_right _ hcap
  · rcases List.mem_append.1 hr with h | h
    · exact hro r h
    · exact hrn r h
  · obtain ⟨u, hu, hru⟩ := rows_join (rest := (Builtin.zeroCells z (cap - (rows.length + new.length))).toList) ho h1 h2 i r j c hr hc
    refine ⟨u, ?_, hru⟩
    rw [← hu, ← Array.getElem?_toList]
    simp

theorem rd_mono_list {G G' : Nat → Prop} {w' : World} {k : Nat} {rows : List (List C)} {f : Nat → Option Value} (hm : ∀ u c, Rd w G u c → Rd w' G' u c)
    (h1 : ∀ (i : Nat) (r : List C) (j : Nat) (c : C), rows[i]? = some r → r[j]? = some c → ∃ u, f (i * k + j) = some u ∧ Rd w G u c) :
    ∀ (i : Nat) (r : List C) (j : Nat) (c : C), rows[i]? = some r → r[j]? = some c → ∃ u, f (i * k + j) = some u ∧ Rd w' G' u c := by
  intro i r j c hr hc
  obtain ⟨u, hu, hru⟩ := h1 i r j c hr hc
  exact ⟨u, hu, hm u c hru⟩

theorem app_ok (h : Repr g s a w blk) (hd : ∀ i, o.dst = some i → i < g.N) {t e : TypeId} {i : TypeInfo} {z : Value} {p q : Operand} {xp xq : X} (ho : o.op = .call { callee := .builtin .append, args := #[p, q], argTypes := #[t, t] })
    (ht : P.underlying t = some (.slice e)) (hi : P.info? e = some i) (hz : i.zero = some z) (hsz : z.cells.size = i.size) (hby : 0 < i.bytes)
    (hp : cx p = some xp) (hq : cx q = some xq) (hK : appP i.size i.bytes s o.dst (s.ev xp) (s.ev xq) K) : OpOk P g o a w K := by
  have ep := h.ev hp; have eq := h.ev hq
  have run : ∀ r w', (Builtin.append_ #[t, t] o.type #[a.eval p, a.eval q]).run P w = .ok r w' → (execOp a.eval o).run P w = .ok (.value r) w' := by
    intro r w' hr
    simp [execOp, ho, resolve, invoke, builtin, hr]
  unfold appP at hK
  split at hK
  · rename_i new hnew
    obtain ⟨A, c, hA, hA0, hrn, hAs⟩ := src_ok h eq hnew
    rw [hA] at run
    generalize s.ev xp = vp at hK ep
    generalize a.eval p = v at ep run
    -- a new block, from rows that were there and the new ones
    split at hK
    · -- nil
      obtain ⟨hb, hK⟩ := hK
      cases ep
      rcases Nat.eq_zero_or_pos new.length with h0 | h0
      · have hn0 := List.eq_nil_of_length_eq_zero h0
        subst hn0
        have hr : (Builtin.append_ #[t, t] o.type #[.slice none 0 0, .slice A 0 c]).run P w = .ok (.slice none 0 0) w := by
          cases A with
          | none => exact run_append_none t o.type e i ht hi none 0 0 c (Nat.le_refl _)
          | some ad => exact run_append_empty t o.type e i ht hi ad c
        unfold newP at hK
        split at hK
        · rename_i d hdst
          obtain ⟨hd0, hK⟩ := hK
          have hv := h.virt (d := d) (k := i.size) (ob_none hd0)
          refine ⟨_, _, run _ _ hr, _, (fun i => if i = d then none else blk i), hK, ?_⟩
          have hput := hv.put (d := some d) (v := .slice none 0 0) (x := .own d i.size 0) (by rw [← hdst]; exact hd) ⟨[], by simp [upd, St.renew], Nat.le_refl _, .inl ⟨by simp, rfl, rfl⟩⟩
          rw [hdst]; exact hput
        · exact hK.elim
      · cases A with
        | none => have := hA0 rfl; subst this; simp at h0
        | some ad =>
          obtain ⟨news, n1, n2, n3⟩ := hAs ad rfl
          have hlen : new.length ≤ maxLen := by
            have := Nat.le_trans (Nat.le_mul_of_pos_right new.length hby) hb
            unfold maxLen; omega
          have hr := run_append_nil (P := P) w t o.type e i z ht hi hz ad new.length c news n1 n2 h0 (by unfold maxLen at hlen; omega) (by omega)
          have hcap := grownCap_ge w new.length 0 e
          have hcapm := grownCap_le_maxLen w new.length 0 e hlen
          obtain ⟨a1, a2, a3, a4⟩ := grown_arr (w := w) (G := Good g s.objs blk w) (rows := []) (olds := []) (cap := grownCap w new.length 0 e) (z := z.cells) (by simp) n1 hsz (by simpa using hcap) (by simp) hrn (fun i r j c hr => by simp at hr) n3
          simp only [List.length_nil, Nat.zero_add, List.nil_append, Array.empty_append] at a1 a2 a3 a4
          refine new_gen h.drew hd (arr := news.toArray ++ Builtin.zeroCells z.cells (grownCap w new.length 0 e - new.length)) (e := e) (run _ _ hr) ?_ ?_ hK
          · intro w' G' O' blk' KK hh
            exact .inr ⟨_, _, _, rfl, hh, a2, a3, rd_mono_list (w := w) (G := Good g s.objs blk w) (fun u c hr => (Rd.mono (w' := w.drew) hr (fun _ h => h) (fun _ _ _ h => h)).mono KK.good KK.cell) a4⟩
          · intro d G' O' blk' hO hb' hh
            exact ⟨_, hO, Nat.le_refl _, .inr ⟨_, _, _, _, hb', rfl, hcap, hcapm, hh, by rw [a1]; exact Nat.le_refl _⟩⟩
    · -- a slice without room behind it
      rename_i k' rows
      obtain ⟨rfl, h0, hb, hK⟩ := hK
      obtain ⟨B, n, rfl, hrd⟩ := ep
      cases A with
      | none => have := hA0 rfl; subst this; simp at h0
      | some ad =>
        obtain ⟨news, n1, n2, n3⟩ := hAs ad rfl
        have hrows : rows.length = n ∧ (∀ r, r ∈ rows → r.length = i.size) ∧ n ≤ maxLen := by
          cases hrd with
          | sl vals e1 e2 e3 e4 e5 e6 e7 => exact ⟨e1, e4, by omega⟩
        obtain ⟨hrl, hro, hnm⟩ := hrows
        have hlen : rows.length + new.length ≤ maxLen := by
          have := Nat.le_trans (Nat.le_mul_of_pos_right (rows.length + new.length) hby) hb
          unfold maxLen; omega
        have hold : ∃ (bd : Addr) (olds : List Value), (B = some bd ∨ rows = []) ∧ olds.length = rows.length * i.size ∧ (∀ j u, olds[j]? = some u → w.cell? (bd.add j) = some u) ∧
            ∀ (i2 : Nat) (r : List C) (j : Nat) (c : C), rows[i2]? = some r → r[j]? = some c → ∃ u, olds[i2 * i.size + j]? = some u ∧ Rd w (Good g s.objs blk w) u c := by
          cases B with
          | none =>
            have : rows = [] := by
              cases hrd with
              | sl vals e1 e2 e3 e4 e5 e6 e7 =>
                have : ¬ 0 < n := fun hl => by simpa using e5 hl
                exact List.eq_nil_of_length_eq_zero (by omega)
            subst this
            exact ⟨ad, [], .inr rfl, by simp, by simp, fun i2 r j c hr => by simp at hr⟩
          | some bd =>
            obtain ⟨olds, o1, o2, o3⟩ := rd_list hrd
            exact ⟨bd, olds, .inl rfl, by rw [hrl]; exact o1, o2, o3⟩
        obtain ⟨bd, olds, hB, o1, o2, o3⟩ := hold
        have hcap := grownCap_ge w (rows.length + new.length) n e
        have hcapm := grownCap_le_maxLen w (rows.length + new.length) n e hlen
        obtain ⟨a1, a2, a3, a4⟩ := grown_arr (w := w) (G := Good g s.objs blk w) (rows := rows) (olds := olds) (cap := grownCap w (rows.length + new.length) n e) (z := z.cells) o1 n1 hsz hcap hro hrn o3 n3
        have hr : (Builtin.append_ #[t, t] o.type #[.slice B n n, .slice (some ad) new.length c]).run P w = .ok (.slice (some ⟨w.heap.size, 0, none⟩) (rows.length + new.length) (grownCap w (rows.length + new.length) n e))
            (w.drew.alloc (.cells (olds.toArray ++ news.toArray ++ Builtin.zeroCells z.cells (grownCap w (rows.length + new.length) n e - (rows.length + new.length))) e)) := by
          subst hrl
          rcases hB with rfl | rfl
          · exact run_append_grow (P := P) w t o.type e i z ht hi hz bd rows.length rows.length olds o1 o2 ad new.length c news n1 n2 (by omega) (by unfold maxLen at hlen; omega) (growslice_fits (by omega) hb)
          · cases B with
            | none =>
              have := run_append_nil (P := P) w t o.type e i z ht hi hz ad new.length c news n1 n2 h0 (by unfold maxLen at hlen; simp at hlen; omega) (by simp at hb; omega)
              have ho : olds = [] := List.eq_nil_of_length_eq_zero (by simpa using o1)
              subst ho
              simpa using this
            | some bd' =>
              have ho : olds = [] := List.eq_nil_of_length_eq_zero (by simpa using o1)
              subst ho
              exact run_append_grow (P := P) w t o.type e i z ht hi hz bd' 0 0 [] (by simp) (by simp) ad new.length c news n1 n2 (by simpa using h0) (by unfold maxLen at hlen; simp at hlen ⊢; omega) (growslice_fits (by simpa using h0) hb)
        refine new_gen h.drew hd (e := e) (run _ _ hr) ?_ ?_ hK
        · intro w' G' O' blk' KK hh
          exact .inr ⟨_, _, _, rfl, hh, a2, a3, rd_mono_list (w := w) (G := Good g s.objs blk w) (fun u c hr => (Rd.mono (w' := w.drew) hr (fun _ h => h) (fun _ _ _ h => h)).mono KK.good KK.cell) a4⟩
        · intro d G' O' blk' hO hb' hh
          exact ⟨_, hO, by simp, .inr ⟨_, _, _, _, hb', rfl, hcap, hcapm, hh, by rw [a1]; exact Nat.le_refl _⟩⟩
    · -- a row of the call's own
      rename_i id k' n
      split at hK
      · rename_i k2 rows hO
        obtain ⟨rfl, rfl, hb, hK⟩ := hK
        have hlen : rows.length + new.length ≤ maxLen := by
          have := Nat.le_trans (Nat.le_mul_of_pos_right (rows.length + new.length) hby) hb
          unfold maxLen; omega
        have hlive : s.ob id ≠ .none := by rw [hO]; simp
        obtain ⟨rows', hO', _, hval⟩ := ep
        have e3 : k2 = i.size ∧ rows = rows' := by
          have : s.ob id = .row i.size rows' := hO'
          rw [hO] at this; cases this; exact ⟨rfl, rfl⟩
        obtain ⟨rfl, rfl⟩ := e3
        -- what ends each way: the object laid anew
        have fin : ∀ (w' : World) (blk' : Nat → Option Nat) (r : Value), (Builtin.append_ #[t, t] o.type #[v, .slice A new.length c]).run P w = .ok r w' →
            Below g.w0.heap.size g.w0 w' → w.heap.size ≤ w'.heap.size → (∀ b0, b0 < w.heap.size → blk id ≠ some b0 → w'.heap[b0]? = w.heap[b0]?) → (∀ j, j ≠ id → blk' j = blk j) →
            (blk' id = blk id ∨ ∃ b, blk' id = some b ∧ w.heap.size ≤ b ∧ b < w'.heap.size) →
            (∀ G' O', Keeps w w' (Good g s.objs blk w) G' (dropO s.objs id) O' blk blk' → ObjOk w' G' O' blk' (blk' id) (.row i.size (rows ++ new))) →
            ((blk' id = none ∧ rows.length + new.length = 0 ∧ r = .slice none 0 0) ∨
              ∃ b cap arr e, blk' id = some b ∧ r = .slice (some ⟨b, 0, none⟩) (rows.length + new.length) cap ∧ rows.length + new.length ≤ cap ∧ cap ≤ maxLen ∧ w'.heap[b]? = some (.cells arr e (0, 0)) ∧ cap * i.size ≤ arr.size) → OpOk P g o a w K := by
          intro w' blk' r hr b1 b2 b3 b4 b5 b6 b7
          have hre := h.renew hlive b1 b2 b3 b4 b5 b6
          refine ⟨_, _, run _ _ hr, _, blk', hK, hre.put hd ?_⟩
          exact ⟨rows ++ new, by simp [upd, St.renew], by simp, b7⟩
        rcases hval with ⟨hbn, hr0, rfl⟩ | ⟨b, cap, arr, e', hbs, rfl, c1, c2, c3, c4⟩
        · -- it was nil
          have hrn0 : rows = [] := List.eq_nil_of_length_eq_zero hr0
          subst hrn0
          rcases Nat.eq_zero_or_pos new.length with h0 | h0
          · have hn0 := List.eq_nil_of_length_eq_zero h0
            subst hn0
            have hr : (Builtin.append_ #[t, t] o.type #[.slice none 0 0, .slice A 0 c]).run P w = .ok (.slice none 0 0) w := by
              cases A with
              | none => exact run_append_none t o.type e i ht hi none 0 0 c (Nat.le_refl _)
              | some ad => exact run_append_empty t o.type e i ht hi ad c
            exact fin w blk _ hr h.below (Nat.le_refl _) (fun _ _ _ => rfl) (fun _ _ => rfl) (.inl rfl) (fun G' O' _ => .inl ⟨hbn, rfl⟩) (.inl ⟨hbn, rfl, rfl⟩)
          · cases A with
            | none => have := hA0 rfl; subst this; simp at h0
            | some ad =>
              obtain ⟨news, n1, n2, n3⟩ := hAs ad rfl
              simp only [List.length_nil, Nat.zero_add] at hb hlen
              have hr := run_append_nil (P := P) w t o.type e i z ht hi hz ad new.length c news n1 n2 h0 (by unfold maxLen at hlen; omega) (by omega)
              have hcap := grownCap_ge w new.length 0 e
              have hcapm := grownCap_le_maxLen w new.length 0 e hlen
              obtain ⟨a1, a2, a3, a4⟩ := grown_arr (w := w) (G := Good g s.objs blk w) (rows := []) (olds := []) (cap := grownCap w new.length 0 e) (z := z.cells) (by simp) n1 hsz (by simpa using hcap) (by simp) hrn (fun i r j c hr => by simp at hr) n3
              simp only [List.length_nil, Nat.zero_add, List.nil_append, Array.empty_append] at a1 a2 a3 a4
              have hnew := heap_alloc_new w.drew (.cells (news.toArray ++ Builtin.zeroCells z.cells (grownCap w new.length 0 e - new.length)) e)
              refine fin _ (fun j => if j = id then some w.heap.size else blk j) _ hr (h.below.drew.alloc h.below.size _) (by simp) (fun b0 hb0 _ => Below.heap_alloc w.drew _ b0 hb0) (fun j hj => if_neg hj) (.inr ⟨w.heap.size, if_pos rfl, Nat.le_refl _, by simp⟩) (fun G' O' KK => ?_) (.inr ?_)
              · rw [if_pos rfl]
                exact .inr ⟨_, _, _, rfl, hnew, a2, a3, rd_mono_list (fun u c hr => hr.mono KK.good KK.cell) a4⟩
              · exact ⟨w.heap.size, _, _, _, if_pos rfl, by simp, by simpa using hcap, hcapm, hnew, by rw [a1]; exact Nat.le_refl _⟩
        · -- it lies in a block
          obtain ⟨arr2, e2, r1, r2, r3, r4⟩ := h.row hO hbs
          rw [c3] at r1
          cases r1
          have hbn := h.new id b hlive hbs
          cases A with
          | none =>
            have hn0 := hA0 rfl
            subst hn0
            have hr := run_append_none (P := P) (w := w) t o.type e i ht hi (some ⟨b, 0, none⟩) rows.length cap c c1
            refine fin w blk _ hr h.below (Nat.le_refl _) (fun _ _ _ => rfl) (fun _ _ => rfl) (.inl rfl) (fun G' O' KK => ?_) (.inr ⟨b, cap, arr, e', hbs, by simp, by simpa using c1, c2, c3, c4⟩)
            rw [List.append_nil]
            exact .inr ⟨b, arr, e', hbs, c3, r2, r3, rd_mono_list (fun u c hr => hr.mono KK.good KK.cell) r4⟩
          | some ad =>
            obtain ⟨news, n1, n2, n3⟩ := hAs ad rfl
            have hn1 : ∀ u ∈ news, u.oneCell' = true := by
              intro u hu
              obtain ⟨j, hj⟩ := List.getElem?_of_mem hu
              have hj1 : j < new.length * i.size := by rw [← n1]; exact (List.getElem?_eq_some_iff.1 hj).1
              have hk : 0 < i.size := by rcases Nat.eq_zero_or_pos i.size with e0 | e0; · rw [e0] at hj1; omega
                                         · exact e0
              have hq : j / i.size < new.length := Nat.div_lt_of_lt_mul (by rw [Nat.mul_comm]; exact hj1)
              have hm : j % i.size < (new[j / i.size]).length := by rw [hrn _ (List.getElem_mem hq)]; exact Nat.mod_lt _ hk
              obtain ⟨u', hu', hru⟩ := n3 _ _ (j % i.size) _ (List.getElem?_eq_getElem hq) (List.getElem?_eq_getElem hm)
              rw [show j / i.size * i.size + j % i.size = j from by rw [Nat.mul_comm]; exact Nat.div_add_mod j i.size, hj] at hu'
              cases hu'
              exact hru.one
            by_cases hroom : rows.length + new.length ≤ cap
            · have hfit0 : (rows.length + new.length) * i.size ≤ arr.size := Nat.le_trans (Nat.mul_le_mul_right _ hroom) c4
              have hfit : rows.length * i.size + news.length ≤ arr.size := by rw [n1, ← Nat.add_mul]; exact hfit0
              have hr := run_append_room' (P := P) (w := w) t o.type e e' i ht hi b rows.length cap arr c3 ad new.length c news n1 n2 hn1 hroom hfit
              have hset := setRow_heap w b arr (arr.toList.take (rows.length * i.size) ++ news ++ arr.toList.drop (rows.length * i.size + news.length)).toArray e' (0, 0) c3
              have hsz2 : (arr.toList.take (rows.length * i.size) ++ news ++ arr.toList.drop (rows.length * i.size + news.length)).toArray.size = arr.size := by simp; omega
              have holds : (arr.toList.take (rows.length * i.size)).length = rows.length * i.size := by simp; omega
              refine fin _ blk _ hr (below_setRow h.below hbn.1 _) (by rw [size_setRow]; exact Nat.le_refl _) (fun b0 _ hne => setRow_other w b b0 _ (fun e0 => hne (by rw [hbs, e0]))) (fun _ _ => rfl) (.inl rfl) (fun G' O' KK => ?_) (.inr ⟨b, cap, _, e', hbs, rfl, hroom, c2, hset, by rw [hsz2]; exact c4⟩)
              refine .inr ⟨b, _, e', hbs, hset, by rw [hsz2, List.length_append]; exact hfit0, fun r hr => ?_, ?_⟩
              · rcases List.mem_append.1 hr with h5 | h5
                · exact r3 r h5
                · exact hrn r h5
              · have hj := rows_join (w := w) (G := Good g s.objs blk w) (rest := arr.toList.drop (rows.length * i.size + news.length)) holds (fun i2 r j c hr hc => by
                  obtain ⟨u, hu, hru⟩ := r4 i2 r j c hr hc
                  have hi2 : i2 < rows.length := (List.getElem?_eq_some_iff.1 hr).1
                  have hj2 : j < i.size := by rw [← r3 r (List.mem_of_getElem? hr)]; exact (List.getElem?_eq_some_iff.1 hc).1
                  have h5 : (i2 + 1) * i.size ≤ rows.length * i.size := Nat.mul_le_mul_right _ hi2
                  rw [Nat.add_mul, Nat.one_mul] at h5
                  exact ⟨u, by rw [List.getElem?_take, if_pos (by omega)]; simpa using hu, hru⟩) n3
                intro i2 r j c hr hc
                obtain ⟨u, hu, hru⟩ := hj i2 r j c hr hc
                exact ⟨u, by rw [← hu, List.getElem?_toArray], hru.mono KK.good KK.cell⟩
            · have hle : rows.length * i.size ≤ arr.size := r2
              have holds : (arr.toList.take (rows.length * i.size)).length = rows.length * i.size := by simp; omega
              have hcells : ∀ j u, (arr.toList.take (rows.length * i.size))[j]? = some u → w.cell? ((⟨b, 0, none⟩ : Addr).add j) = some u := by
                intro j u hu
                rw [List.getElem?_take] at hu
                split at hu
                · rw [add_lit, Nat.zero_add, cell_of w c3]; simpa using hu
                · cases hu
              have h4' : ∀ (i2 : Nat) (r : List C) (j : Nat) (c : C), rows[i2]? = some r → r[j]? = some c → ∃ u, (arr.toList.take (rows.length * i.size))[i2 * i.size + j]? = some u ∧ Rd w (Good g s.objs blk w) u c := by
                intro i2 r j c hr hc
                obtain ⟨u, hu, hru⟩ := r4 i2 r j c hr hc
                have hi2 : i2 < rows.length := (List.getElem?_eq_some_iff.1 hr).1
                have hj2 : j < i.size := by rw [← r3 r (List.mem_of_getElem? hr)]; exact (List.getElem?_eq_some_iff.1 hc).1
                have h5 : (i2 + 1) * i.size ≤ rows.length * i.size := Nat.mul_le_mul_right _ hi2
                rw [Nat.add_mul, Nat.one_mul] at h5
                exact ⟨u, by rw [List.getElem?_take, if_pos (by omega)]; simpa using hu, hru⟩
              have hr := run_append_grow (P := P) w t o.type e i z ht hi hz ⟨b, 0, none⟩ rows.length cap _ holds hcells ad new.length c news n1 n2 (by omega) (by unfold maxLen at hlen; omega) (growslice_fits (by omega) hb)
              have hcap := grownCap_ge w (rows.length + new.length) cap e
              have hcapm := grownCap_le_maxLen w (rows.length + new.length) cap e hlen
              obtain ⟨a1, a2, a3, a4⟩ := grown_arr (w := w) (G := Good g s.objs blk w) (rows := rows) (cap := grownCap w (rows.length + new.length) cap e) (z := z.cells) holds n1 hsz hcap r3 hrn h4' n3
              have hnew := heap_alloc_new w.drew (.cells ((arr.toList.take (rows.length * i.size)).toArray ++ news.toArray ++ Builtin.zeroCells z.cells (grownCap w (rows.length + new.length) cap e - (rows.length + new.length))) e)
              refine fin _ (fun j => if j = id then some w.heap.size else blk j) _ hr (h.below.drew.alloc h.below.size _) (by simp) (fun b0 hb0 _ => Below.heap_alloc w.drew _ b0 hb0) (fun j hj => if_neg hj) (.inr ⟨w.heap.size, if_pos rfl, Nat.le_refl _, by simp⟩) (fun G' O' KK => ?_) (.inr ?_)
              · rw [if_pos rfl]
                exact .inr ⟨_, _, _, rfl, hnew, a2, a3, rd_mono_list (fun u c hr => hr.mono KK.good KK.cell) a4⟩
              · exact ⟨w.heap.size, _, _, _, if_pos rfl, rfl, hcap, hcapm, hnew, by rw [a1]; exact Nat.le_refl _⟩
      · exact hK.elim
    · exact hK.elim
  · exact hK.elim

end
end Go.Proofs.Ytenfgllkjgfjpaa
