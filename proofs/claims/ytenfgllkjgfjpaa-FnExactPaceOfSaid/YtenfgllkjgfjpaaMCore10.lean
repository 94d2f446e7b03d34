/- The abstract machine, part 10: literals of structs and of slices; cuts. -/
import Derived.Test.YtenfgllkjgfjpaaMCore9
set_option linter.all false
namespace Go.Proofs.Ytenfgllkjgfjpaa
open Go.RowKit

section
variable {P : Program} {g : Ghost} {o : Oper} {s : St} {a : Act} {w : World} {blk : Lay} {K : St → Prop}

theorem foldl_set_get (off : Nat) : ∀ (vs : List Value) (n : Nat) (cs : Array Value), ((vs.zipIdx n).foldl (fun (cs : Array Value) (p : Value × Nat) => cs.setIfInBounds (off + p.2) p.1) cs).size = cs.size ∧
    ∀ j, off + n + vs.length ≤ cs.size → ((vs.zipIdx n).foldl (fun (cs : Array Value) (p : Value × Nat) => cs.setIfInBounds (off + p.2) p.1) cs)[j]? = if off + n ≤ j ∧ j < off + n + vs.length then vs[j - (off + n)]? else cs[j]?
  | [], n, cs => ⟨rfl, fun j _ => by rw [if_neg (by simp)]; rfl⟩
  | v :: vs, n, cs => by
    obtain ⟨h1, h2⟩ := foldl_set_get off vs (n + 1) (cs.setIfInBounds (off + n) v)
    simp only [List.zipIdx_cons, List.foldl_cons]
    refine ⟨by rw [h1]; simp, fun j hj => ?_⟩
    rw [h2 j (by simp at hj ⊢; omega)]
    simp only [List.length_cons] at hj ⊢
    by_cases e1 : off + (n + 1) ≤ j ∧ j < off + (n + 1) + vs.length
    · rw [if_pos e1, if_pos (by omega)]
      rw [show j - (off + n) = (j - (off + (n + 1))) + 1 from by omega, List.getElem?_cons_succ]
    · rw [if_neg e1, Array.getElem?_setIfInBounds]
      by_cases e2 : off + n = j
      · rw [if_pos e2, if_pos (by omega), if_pos (by omega), ← e2, Nat.sub_self]; rfl
      · rw [if_neg e2, if_neg (by omega)]

theorem fill_step (off : Nat) (cs cells : Array Value) (h : off + cs.size ≤ cells.size) :
    (cs.zipIdx.foldl (fun cs (c, j) => cs.setIfInBounds (off + j) c) cells).size = cells.size ∧
    ∀ j : Nat, (cs.zipIdx.foldl (fun cs (c, j) => cs.setIfInBounds (off + j) c) cells)[j]? = if off ≤ j ∧ j < off + cs.size then cs[j - off]? else cells[j]? := by
  have e : cs.zipIdx.foldl (fun cs (c, j) => cs.setIfInBounds (off + j) c) cells = (cs.toList.zipIdx 0).foldl (fun (cs : Array Value) (p : Value × Nat) => cs.setIfInBounds (off + p.2) p.1) cells := by
    rw [← Array.foldl_toList]; simp
  obtain ⟨h1, h2⟩ := foldl_set_get off cs.toList 0 cells
  rw [e]
  refine ⟨h1, fun j => ?_⟩
  rw [h2 j (by simpa using h)]
  simp

theorem bld_fill (h : Repr g s a w blk) {places : List (Nat × Nat)} : ∀ (parts : List (Nat × Operand)) (ps : List (Nat × Nat × X)) (l : List AV) (cells : Array Value) (K : List AV → Prop), bldP places parts = some ps →
    cells.size = l.length → (∀ (j : Nat) (x : AV), l[j]? = some x → ∃ u, cells[j]? = some u ∧ RV1 w (Good g s.objs blk w) s.objs blk u x) → bldPs s ps l K →
    ∃ (l' : List AV) (cells' : Array Value), K l' ∧ Instr.fill (fun i => places[i]?) cells (parts.map fun p => (p.1, a.eval p.2)) = some cells' ∧ cells'.size = l'.length ∧
      ∀ (j : Nat) (x : AV), l'[j]? = some x → ∃ u, cells'[j]? = some u ∧ RV1 w (Good g s.objs blk w) s.objs blk u x
  | [], ps, l, cells, K, hb, hs, hr, hK => by
    cases hb
    exact ⟨l, cells, hK, rfl, hs, hr⟩
  | (i, o) :: parts, ps, l, cells, K, hb, hs, hr, hK => by
    simp only [bldP] at hb
    split at hb
    · rename_i off n x xs h1 h2 h3
      cases hb
      obtain ⟨k1, k2, k3, hK⟩ := hK
      obtain ⟨c1, c2⟩ := cellsOf_ok (h.ev h2) k2
      obtain ⟨f1, f2⟩ := fill_step off (a.eval o).cells cells (by omega)
      obtain ⟨l', cells', r1, r2, r3, r4⟩ := bld_fill h parts xs _ ((a.eval o).cells.zipIdx.foldl (fun cs (c, j) => cs.setIfInBounds (off + j) c) cells) K h3 (by rw [f1]; simp; omega) (by
        intro j y hy
        rw [f2]
        rw [splice_getL l _ off n k1 k3] at hy
        by_cases e1 : j < off
        · rw [if_pos e1] at hy; rw [if_neg (by omega)]; exact hr j y hy
        · rw [if_neg e1] at hy
          by_cases e2 : j < off + n
          · rw [if_pos e2] at hy; rw [if_pos (by omega)]
            obtain ⟨u, hu, hru⟩ := c2 _ y hy
            exact ⟨u, by simpa using hu, hru⟩
          · rw [if_neg e2] at hy; rw [if_neg (by omega)]; exact hr j y hy) hK
      refine ⟨l', cells', r1, ?_, r3, r4⟩
      simp only [List.map_cons, Instr.fill, h1]
      rw [if_neg (by simp; omega)]
      exact r2
    · cases hb

theorem bld_ok (h : Repr g s a w blk) (hd : ∀ i, o.dst = some i → i < g.N) {t : TypeId} {it : TypeInfo} {fields : Array Field} {z : Value} {parts : Array (Nat × Operand)} {places : List (Nat × Nat)} {ps : List (Nat × Nat × X)} {zs : List AV}
    (ho : o.op = .build t parts) (hi : P.info? t = some it) (ht : P.underlying t = some (.struct fields)) (hz : it.zero = some z) (hp : fields.toList.mapM (fun f => (P.info? f.type).map fun i => (f.offset, i.size)) = some places)
    {ks : List Nat} (hb : bldP places parts.toList = some ps) (hzs : constAVs z.cells.toList ks = some zs) (hK : bldPs s ps zs fun l => K (s.put o.dst (.agg l))) : OpOk P g o a w K := by
  obtain ⟨c1, c2⟩ := constAVs_get hzs
  obtain ⟨l', cells', r1, r2, r3, r4⟩ := bld_fill h parts.toList ps zs z.cells _ hb (by simpa using c1.symm) (fun j x hx => by
    obtain ⟨u, k, hu, hr⟩ := c2 j x hx
    exact ⟨u, by simpa using hu, constAVk_ok1 hr⟩) hK
  have hbuilt : P.built t (parts.map fun (i, x) => (i, a.eval x)).toList = some cells' := by
    simp only [Program.built, hi, ht, hz, hp]
    simpa using r2
  have hr := run_build (P := P) w t (parts.map fun (i, x) => (i, a.eval x)) cells' hbuilt
  refine OpOk.val2 h hd r1 (v := .agg cells') ?_ ⟨cells', rfl, r3, r4⟩
  simp only [execOp, ho, Sem.run_bind, hr, Result.andThen_ok, Sem.run_pure]

theorem fill_all (k : Nat) : ∀ (vs : List Value) (m : Nat) (cells : Array Value), (∀ v ∈ vs, v.cells.size = k) → cells.size = (m + vs.length) * k →
    ∃ cells' : Array Value, Instr.fill (fun i => some (i * k, k)) cells ((vs.zipIdx m).map fun p => (p.2, p.1)) = some cells' ∧ cells'.size = cells.size ∧ (∀ j, j < m * k → cells'[j]? = cells[j]?) ∧
      ∀ (i : Nat) (v : Value) (j : Nat), vs[i]? = some v → j < k → cells'[(m + i) * k + j]? = v.cells[j]?
  | [], m, cells, _, _ => ⟨cells, rfl, rfl, fun _ _ => rfl, fun i v j h => by simp at h⟩
  | v :: vs, m, cells, hk, hs => by
    have hv := hk v (by simp)
    have hmul : (m + (vs.length + 1)) * k = m * k + k + vs.length * k := by rw [Nat.add_mul, Nat.add_mul, Nat.one_mul]; omega
    simp only [List.length_cons] at hs
    obtain ⟨f1, f2⟩ := fill_step (m * k) v.cells cells (by omega)
    obtain ⟨cells', r1, r2, r3, r4⟩ := fill_all k vs (m + 1) (v.cells.zipIdx.foldl (fun cs (c, j) => cs.setIfInBounds (m * k + j) c) cells) (fun u hu => hk u (by simp [hu])) (by rw [f1, hs]; congr 1; omega)
    have hm1 : (m + 1) * k = m * k + k := by rw [Nat.add_mul, Nat.one_mul]
    refine ⟨cells', ?_, by rw [r2, f1], fun j hj => ?_, fun i u j hu hj => ?_⟩
    · simp only [List.zipIdx_cons, List.map_cons, Instr.fill]
      rw [if_neg (by simp; omega)]
      exact r1
    · rw [r3 j (by omega), f2 j, if_neg (by omega)]
    · cases i with
      | zero =>
        simp at hu; subst hu
        rw [Nat.add_zero, r3 _ (by omega), f2, if_pos (by omega)]
        congr 1; omega
      | succ i =>
        have := r4 i u j (by simpa using hu) hj
        rw [show m + 1 + i = m + (i + 1) from by omega] at this
        exact this

theorem partsX_get : ∀ (parts : List (Nat × Operand)) (m : Nat) (xs : List X), partsX m parts = some xs → xs.length = parts.length ∧ (parts.map fun p => (p.1, a.eval p.2)) = (((parts.map fun p => a.eval p.2).zipIdx m).map fun p => (p.2, p.1)) ∧ cxs (parts.map (·.2)) = some xs
  | [], m, xs, h => by cases h; exact ⟨rfl, rfl, rfl⟩
  | (i, o) :: parts, m, xs, h => by
    simp only [partsX] at h
    split at h
    · rename_i e
      split at h
      · rename_i x xs' h1 h2
        cases h
        obtain ⟨r1, r2, r3⟩ := partsX_get parts (m + 1) xs' h2
        subst e
        refine ⟨by simp [r1], by simp only [List.map_cons, List.zipIdx_cons]; rw [r2], by simp only [List.map_cons, cxs, h1, r3]⟩
      · cases h
    · cases h

theorem rowOf_ok {x : AV} {r : List C} {v : Value} (h : RVs g s w blk v x) (hx : x.rowOf = some r) : v.cells.size = r.length ∧ ∀ (j : Nat) (c : C), r[j]? = some c → ∃ u, v.cells[j]? = some u ∧ Rd w (Good g s.objs blk w) u c := by
  obtain ⟨h1, h2⟩ := toCs_get hx
  have hok : x.cellsOf.all AV.cellOk = true := by
    rw [List.all_eq_true]
    intro y hy
    obtain ⟨j, hj⟩ := List.getElem?_of_mem hy
    have hjl : j < r.length := by rw [h1]; exact (List.getElem?_eq_some_iff.1 hj).1
    obtain ⟨y', h3, h4⟩ := h2 j _ (List.getElem?_eq_getElem hjl)
    rw [hj] at h3; cases h3
    cases y <;> simp [AV.toC] at h4 <;> rfl
  obtain ⟨c1, c2⟩ := cellsOf_ok h hok
  refine ⟨by omega, fun j c hj => ?_⟩
  obtain ⟨y, h3, h4⟩ := h2 j c hj
  obtain ⟨u, hu, hr⟩ := c2 j y h3
  exact ⟨u, by simpa using hu, toC_ok1 hr h4⟩

theorem rowsOf_get : ∀ {l : List AV} {rows : List (List C)}, AV.rowsOf l = some rows → rows.length = l.length ∧ ∀ (j : Nat) (r : List C), rows[j]? = some r → ∃ x, l[j]? = some x ∧ x.rowOf = some r
  | [], cs, h => by cases h; exact ⟨rfl, fun j c hj => by simp at hj⟩
  | x :: l, cs, h => by
    simp only [AV.rowsOf] at h
    split at h
    · rename_i c1 cs1 h1 h2
      cases h
      obtain ⟨hl, hg⟩ := rowsOf_get h2
      refine ⟨by simp [hl], fun j c hj => ?_⟩
      cases j with
      | zero => simp at hj; subst hj; exact ⟨x, rfl, h1⟩
      | succ j => exact hg j c (by simpa using hj)
    · cases h

/-- What is given away, a row each. -/
theorem pkl_cellOk {s : St} : ∀ {l : List AV} {p : List C × List Nat}, pkl s l = some p → l.all AV.cellOk = true
  | [], _, _ => rfl
  | x :: l, p, h => by
    simp only [pkl] at h
    split at h
    · rename_i c a cs as h1 h2
      have := pkl_cellOk h2
      have hx : x.cellOk = true := by
        revert h1
        cases x <;> simp [pk1, AV.cellOk]
      simp [hx, this]
    · cases h
theorem pks_ok (h : Repr g s a w blk) : ∀ {l : List AV} {us : List Value} {rows : List (List C)} {ids : List Nat}, pks s l = some (rows, ids) →
    (∀ (j : Nat) (x : AV), l[j]? = some x → ∃ u, us[j]? = some u ∧ RVs g s w blk u x) → ids.Nodup →
    ∃ Fs : Nat → Nat → Nat → Prop, rows.length = l.length ∧ (∀ (i : Nat) (r : List C), rows[i]? = some r → ∃ u, us[i]? = some u ∧ u.cells.size = r.length ∧ ∀ (j : Nat) (c : C), r[j]? = some c → ∃ z, u.cells[j]? = some z ∧ OT w (Good g s.objs blk w) z c (Fs i j)) ∧
      (∀ i j y, Fs i j y → ∃ i0, i0 ∈ ids ∧ s.objs i0 ≠ .none ∧ blk.fp i0 y) ∧ (∀ i j i' j' y, Fs i j y → Fs i' j' y → i = i' ∧ j = j')
  | [], us, rows, ids, hp, _, _ => by
    cases hp
    exact ⟨fun _ _ => noF, rfl, fun j c hj => by simp at hj, fun _ _ _ h => h.elim, fun _ _ _ _ _ h => h.elim⟩
  | x :: l, us, rows, ids, hp, hv, hnd => by
    simp only [pks] at hp
    split at hp
    · rename_i c a1 cs1 as1 h1 h2
      cases hp
      obtain ⟨u0, hu0, hr0⟩ := hv 0 x rfl
      have hnd' := List.nodup_append.1 hnd
      obtain ⟨c1, c2⟩ := cellsOf_ok hr0 (pkl_cellOk h1)
      obtain ⟨F0, f1, f2, f3, f4⟩ := pkl_ok h (us := u0.cells.toList) h1 c2 hnd'.1
      obtain ⟨Fs, e1, e2, e3, e4⟩ := pks_ok h (us := us.tail) h2 (fun j y hj => by
        obtain ⟨u, hu, hr⟩ := hv (j + 1) y (by simpa using hj)
        exact ⟨u, by simpa [List.getElem?_tail] using hu, hr⟩) hnd'.2.1
      refine ⟨fun i => match i with | 0 => F0 | i + 1 => Fs i, by simp [e1], fun i r hi => ?_, fun i j y hy => ?_, fun i j i' j' y hy hy' => ?_⟩
      · cases i with
        | zero =>
          simp at hi; subst hi
          refine ⟨u0, hu0, by omega, fun j c' hj => ?_⟩
          obtain ⟨z, hz, ho⟩ := f2 j c' hj
          exact ⟨z, by simpa using hz, ho⟩
        | succ i =>
          obtain ⟨u, hu, hr⟩ := e2 i r (by simpa using hi)
          exact ⟨u, by simpa [List.getElem?_tail] using hu, hr⟩
      · cases i with
        | zero => obtain ⟨i0, m1, m2⟩ := f3 j y hy; exact ⟨i0, List.mem_append_left _ m1, m2⟩
        | succ i => obtain ⟨i0, m1, m2⟩ := e3 i j y hy; exact ⟨i0, List.mem_append_right _ m1, m2⟩
      · have cross : ∀ j i j', F0 j y → Fs i j' y → False := by
          intro j i j' q1 q2
          obtain ⟨i0, m1, m2, m3⟩ := f3 j y q1
          obtain ⟨i1, n1, n2, n3⟩ := e3 i j' y q2
          have := h.inj i0 i1 y m2 n2 m3 n3
          subst this
          exact hnd'.2.2 i0 m1 i0 n1 rfl
        cases i with
        | zero => cases i' with
          | zero => exact ⟨rfl, f4 j j' y hy hy'⟩
          | succ i' => exact (cross j i' j' hy hy').elim
        | succ i => cases i' with
          | zero => exact (cross j' i j hy' hy).elim
          | succ i' => obtain ⟨q1, q2⟩ := e4 i j i' j' y hy hy'; exact ⟨by rw [q1], q2⟩
    · cases hp

theorem St.drops_ob (l : List Nat) (s : St) (i : Nat) : (s.drops l).ob i = if i ∈ l then .none else (s.objs i).kills l := St.drops_objs l s i

/-- A new tree, in a new block; what is put there is given away. -/
theorem Repr.allocTree (h : Repr g s a w blk) {d k : Nat} {ids : List Nat} {rows : List (List C)} {arr : Array Value} {e : TypeId} (hd : (s.drops ids).ob d = .none) (hsz : rows.length * k ≤ arr.size) (hk : ∀ r, r ∈ rows → r.length = k) {Fs : Nat → Nat → Nat → Prop}
    (hot : ∀ (i : Nat) (r : List C), rows[i]? = some r → ∀ (j : Nat) (c : C), r[j]? = some c → ∃ u, arr[i * k + j]? = some u ∧ OT w (Good g s.objs blk w) u c (Fs i j))
    (hF : ∀ i j y, Fs i j y → ∃ i0, i0 ∈ ids ∧ s.objs i0 ≠ .none ∧ blk.fp i0 y) (hdis : ∀ i j i' j' y, Fs i j y → Fs i' j' y → i = i' ∧ j = j') :
    ∃ L' : Lay, L' d = some w.heap.size ∧ Repr g ⟨(s.drops ids).env, upd d (.tr k 0 rows) (s.drops ids).objs⟩ a (w.alloc (.cells arr e)) L' := by
  have hup : ∀ (o' : Obj) j, upd d o' (s.drops ids).objs j = if j = d then o' else (s.drops ids).objs j := fun _ _ => rfl
  have hoff : Off noF w (w.alloc (.cells arr e)) := (Off.refl noF w).alloc _
  have henv : (s.drops ids).env = fun t => (s.env t).kills ids := by funext t; exact St.drops_env ids s t
  have hdn : d ∉ ids → s.objs d = .none := by
    intro hm
    rw [St.drops_ob, if_neg hm] at hd
    cases hs : s.objs d with
    | none => rfl
    | _ => exact absurd hd ((Obj.kills_none ids _).2 (by rw [hs]; simp))
  refine ⟨blk.upd d (some w.heap.size) (fun y => ∃ i0, i0 ∈ ids ∧ s.objs i0 ≠ .none ∧ blk.fp i0 y), by show (blk.upd _ _ _).root d = _; rw [Lay.upd_root, if_pos rfl], ?_⟩
  rw [henv]
  refine h.turn ids (fun j => j = d) hoff (fun y hy => hy.elim) (fun j hj => ?_) (fun j y hj _ hf => ?_) (fun j j' y hj hj' _ _ _ _ => hj.trans hj'.symm) (fun j y hj _ hr' => ?_) (fun j hj hm hl => ?_) (fun j k' v' rows' hj hm hk => ?_) (fun G' K j hj => ?_)
  · exact ⟨by rw [hup, if_neg hj, St.drops_objs], by rw [Lay.upd_root, if_neg hj], by rw [Lay.upd_sub, if_neg hj]⟩
  · subst hj
    rw [Lay.upd_fp, if_pos rfl] at hf
    rcases hf with hf | ⟨i0, m1, m2, m3⟩
    · cases hf; exact .inr ⟨Nat.le_refl _, by simp⟩
    · exact .inl ⟨i0, .inr m1, m2, m3⟩
  · subst hj
    rw [Lay.upd_root, if_pos rfl] at hr'
    cases hr'
    rw [Lay.upd_sub, if_pos rfl]
    rintro ⟨i0, m1, m2, m3⟩
    have := (h.new i0 _ m2 m3).2; omega
  · subst hj; exact absurd (hdn hm) hl
  · subst hj; rw [hdn hm] at hk; cases hk
  · subst hj
    rw [hup, if_pos rfl, Lay.upd_root, if_pos rfl, Lay.upd_sub, if_pos rfl]
    refine .inr ⟨_, arr, e, rfl, heap_alloc_new w _, hsz, hk, fun i2 j2 => (arr[i2 * k + j2]?).getD undef, Fs, fun i2 j2 y hy => ⟨hF i2 j2 y hy, ?_⟩, hdis, fun i2 r hr j2 c hc => ?_, fun i2 r hr j2 c hc => ?_⟩
    · obtain ⟨i0, m1, m2, m3⟩ := hF i2 j2 y hy
      have := (h.new i0 y m2 m3).2
      omega
    · obtain ⟨u, hu, _⟩ := hot i2 r hr j2 c hc
      dsimp only; rw [hu]; rfl
    · obtain ⟨u, hu, ho⟩ := hot i2 r hr j2 c hc
      dsimp only; rw [hu]
      refine ho.mono K.good K.cell (fun _ h => h) fun y hy => ?_
      obtain ⟨i0, m1, m2, m3⟩ := hF i2 j2 y hy
      exact Below.heap_alloc w _ y (h.new i0 y m2 m3).2

theorem bsl_ok (h : Repr g s a w blk) (hd : ∀ i, o.dst = some i → i < g.N) {t e : TypeId} {i : TypeInfo} {z : Value} {n : Nat} {parts : Array (Nat × Operand)} {xs : List X} (ho : o.op = .buildSlice t n parts) (ht : P.underlying t = some (.slice e)) (hi : P.info? e = some i) (hz : i.zero = some z)
    (hx : partsX 0 parts.toList = some xs) (hn : xs.length = n) (hmax : n * i.size ≤ 1000) (hpos : 0 < i.size) (hK : bslP i.size (xs.map s.ev) s o.dst K) : OpOk P g o a w K := by
  obtain ⟨p1, p2, p3⟩ := partsX_get (a := a) parts.toList 0 xs hx
  obtain ⟨e1, e2⟩ := h.evs p3
  unfold bslP at hK
  split at hK
  · rename_i rows hrows
    obtain ⟨hk, hK⟩ := hK
    obtain ⟨g1, g2⟩ := rowsOf_get hrows
    have hlen : rows.length = n := by rw [g1, List.length_map, hn]
    have hvals : ∀ (q : Nat) (r : List C), rows[q]? = some r → ∃ v, ((parts.toList.map (·.2)).map a.eval)[q]? = some v ∧ v.cells.size = r.length ∧ ∀ (j : Nat) (c : C), r[j]? = some c → ∃ u, v.cells[j]? = some u ∧ Rd w (Good g s.objs blk w) u c := by
      intro q r hq
      obtain ⟨x, hx1, hx2⟩ := g2 q r hq
      obtain ⟨v, hv, hr⟩ := e2 q x hx1
      exact ⟨v, hv, rowOf_ok hr hx2⟩
    have hvl : ((parts.toList.map (·.2)).map a.eval).length = n := by rw [e1, List.length_map, hn]
    obtain ⟨cells', f1, f2, f3, f4⟩ := fill_all i.size ((parts.toList.map (·.2)).map a.eval) 0 ((Array.range (n * i.size)).map ((if n * i.size = 0 then #[] else z.cells)[· % (if n * i.size = 0 then #[] else z.cells).size]!)) (by
      intro v hv
      obtain ⟨q, hq⟩ := List.getElem?_of_mem hv
      have hql : q < rows.length := by rw [hlen, ← hvl]; exact (List.getElem?_eq_some_iff.1 hq).1
      obtain ⟨v', h1, h2, _⟩ := hvals q _ (List.getElem?_eq_getElem hql)
      rw [hq] at h1; cases h1
      rw [h2]; exact hk _ (List.getElem_mem hql)) (by rw [Nat.zero_add, hvl]; simp)
    have hparts : parts.toList.map (fun x => (x.1, a.eval x.2)) = ((((parts.toList.map (·.2)).map a.eval).zipIdx 0).map fun p => (p.2, p.1)) := by
      rw [List.map_map]; exact p2
    rw [← hparts] at f1
    refine new_gen h hd (v := .slice (some ⟨w.heap.size, 0, none⟩) n n) (arr := cells') (e := e) ?_ ?_ ?_ hK
    · have hbig : ¬ (n * i.size > 2 ^ 24) := by omega
      by_cases h0 : n * i.size = 0
      · simp only [h0, if_true, Array.range_zero', Array.map_empty] at f1
        simp [execOp, ho, Instr.buildSlice, run_underlying ht, run_sizeOf' hi, h0, f1, newRow_run, Array.range_zero']
      · simp only [h0, if_false] at f1
        simp [execOp, ho, Instr.buildSlice, run_underlying ht, run_sizeOf' hi, h0, hbig, zeroValue, typeInfo, hi, hz, f1, newRow_run]
    · intro w' G' O' blk' KK hh
      refine .inr ⟨_, _, _, rfl, hh, by rw [f2, hlen]; simp, hk, fun q r j c hq hj => ?_⟩
      obtain ⟨v, h1, h2, h3⟩ := hvals q r hq
      obtain ⟨u, hu, hr⟩ := h3 j c hj
      have hjk : j < i.size := by rw [← hk r (List.mem_of_getElem? hq)]; exact (List.getElem?_eq_some_iff.1 hj).1
      have := f4 q v j h1 hjk
      rw [Nat.zero_add] at this
      exact ⟨u, by rw [this]; exact hu, hr.mono KK.good KK.cell⟩
    · intro d G' O' blk' hO hb hh
      refine ⟨_, by rw [hO]; rfl, Nat.le_refl _, .inr ⟨_, n, _, _, hb, by rw [hlen], by omega, ?_, hh, by rw [f2]; simp⟩⟩
      have : n * 1 ≤ n * i.size := Nat.mul_le_mul_left _ hpos
      unfold maxLen; omega
  · split at hK
    case h_2 => exact hK.elim
    rename_i rows ids hpk
    obtain ⟨hk, hnd, hK⟩ := hK
    obtain ⟨Fs, g1, g2, g3, g4⟩ := pks_ok h hpk e2 hnd
    have hlen : rows.length = n := by rw [g1, List.length_map, hn]
    have hvl : ((parts.toList.map (·.2)).map a.eval).length = n := by rw [e1, List.length_map, hn]
    obtain ⟨cells', f1, f2, f3, f4⟩ := fill_all i.size ((parts.toList.map (·.2)).map a.eval) 0 ((Array.range (n * i.size)).map ((if n * i.size = 0 then #[] else z.cells)[· % (if n * i.size = 0 then #[] else z.cells).size]!)) (by
      intro v hv
      obtain ⟨q, hq⟩ := List.getElem?_of_mem hv
      have hql : q < rows.length := by rw [hlen, ← hvl]; exact (List.getElem?_eq_some_iff.1 hq).1
      obtain ⟨v', h1, h2, _⟩ := g2 q _ (List.getElem?_eq_getElem hql)
      rw [hq] at h1; cases h1
      rw [h2]; exact hk _ (List.getElem_mem hql)) (by rw [Nat.zero_add, hvl]; simp)
    have hparts : parts.toList.map (fun x => (x.1, a.eval x.2)) = ((((parts.toList.map (·.2)).map a.eval).zipIdx 0).map fun p => (p.2, p.1)) := by
      rw [List.map_map]; exact p2
    rw [← hparts] at f1
    have hrun : (execOp a.eval o).run P w = .ok (.value (.slice (some ⟨w.heap.size, 0, none⟩) n n)) (w.alloc (.cells cells' e)) := by
      have hbig : ¬ (n * i.size > 2 ^ 24) := by omega
      by_cases h0 : n * i.size = 0
      · simp only [h0, if_true, Array.range_zero', Array.map_empty] at f1
        simp [execOp, ho, Instr.buildSlice, run_underlying ht, run_sizeOf' hi, h0, f1, newRow_run, Array.range_zero']
      · simp only [h0, if_false] at f1
        simp [execOp, ho, Instr.buildSlice, run_underlying ht, run_sizeOf' hi, h0, hbig, zeroValue, typeInfo, hi, hz, f1, newRow_run]
    unfold newP at hK
    split at hK
    · rename_i d hdst
      obtain ⟨hd0, hK⟩ := hK
      obtain ⟨L', hL, hre⟩ := h.allocTree (d := d) (k := i.size) (arr := cells') (e := e) (Fs := Fs) (ob_none hd0) (by rw [f2, hlen]; simp) hk (fun i2 r hr j c hc => by
        obtain ⟨v, h1, h2, h3⟩ := g2 i2 r hr
        obtain ⟨u, hu, ho⟩ := h3 j c hc
        have hjk : j < i.size := by rw [← hk r (List.mem_of_getElem? hr)]; exact (List.getElem?_eq_some_iff.1 hc).1
        have := f4 i2 v j h1 hjk
        rw [Nat.zero_add] at this
        exact ⟨u, by rw [this]; exact hu, ho⟩) g3 g4
      refine ⟨_, _, hrun, _, L', hK, ?_⟩
      have hput := hre.put (d := some d) (v := .slice (some ⟨w.heap.size, 0, none⟩) n n) (x := .own d i.size rows.length) (by rw [← hdst]; exact hd) (by
        refine ⟨rows.length, by simp [upd, Obj.dims], Nat.le_refl _, .inr ⟨_, n, cells', e, hL, by rw [hlen], by omega, ?_, heap_alloc_new w _, by rw [f2]; simp⟩⟩
        have : n * 1 ≤ n * i.size := Nat.mul_le_mul_left _ hpos
        unfold maxLen; omega)
      rw [hdst]
      exact hput
    · exact hK.elim

end
end Go.Proofs.Ytenfgllkjgfjpaa
