/- The abstract machine, part 10: literals of structs and of slices; cuts. -/
import Derived.Test.YtenfgllkjgfjpaaCore9
set_option linter.all false
namespace Go.Proofs.Ytenfgllkjgfjpaa
open Go.RowKit

section
variable {P : Program} {g : Ghost} {o : Oper} {s : St} {a : Act} {w : World} {blk : Nat → Option Nat} {K : St → Prop}

theorem foldl_set_get (off : Nat) : ∀ (vs : List Value) (n : Nat) (cs : Array Value), ((vs.zipIdx n).foldl (fun (cs : Array Value) (p : Value × Nat) => cs.setIfInBounds (off + p.2) p.1) cs).size = cs.size ∧
    ∀ j, off + n + vs.length ≤ cs.size → ((vs.zipIdx n).foldl (fun (cs : Array Value) (p : Value × Nat) => cs.setIfInBounds (off + p.2) p.1) cs)[j]? = if off + n ≤ j ∧ j < off + n + vs.length then vs[j - (off + n)]? else cs[j]?
  | [], n, cs => ⟨rfl, fun j _ => by rw [if_neg (by simp)]; rfl⟩
  | v :: vs, n, cs => by
    obtain ⟨h1, h2⟩ := foldl_set_get off vs (n + 1) (cs.setIfInBounds (off + n) v)
    simp only [List.zipIdx_cons, List.foldl_cons]
    refine ⟨by rw [h1]; simp, fun j hj => ?_⟩
    rw [h2 j (by simp at hj ⊢; omega)]
    simp only [List.length_cons] at hj ⊢
    by_cases e1 : off + (n + 1) ≤ j ∧ j < off + (n + 1) + vs.length
    · rw [if_pos e1, if_pos (by omega)]
      rw [show j - (off + n) = (j - (off + (n + 1))) + 1 from by omega, List.getElem?_cons_succ]
    · rw [if_neg e1, Array.getElem?_setIfInBounds]
      by_cases e2 : off + n = j
      · rw [if_pos e2, if_pos (by omega), if_pos (by omega), ← e2, Nat.sub_self]; rfl
      · rw [if_neg e2, if_neg (by omega)]

theorem fill_step (off : Nat) (cs cells : Array Value) (h : off + cs.size ≤ cells.size) :
    (cs.zipIdx.foldl (fun cs (c, j) => cs.setIfInBounds (off + j) c) cells).size = cells.size ∧
    ∀ j : Nat, (cs.zipIdx.foldl (fun cs (c, j) => cs.setIfInBounds (off + j) c) cells)[j]? = if off ≤ j ∧ j < off + cs.size then cs[j - off]? else cells[j]? := by
  have e : cs.zipIdx.foldl (fun cs (c, j) => cs.setIfInBounds (off + j) c) cells = (cs.toList.zipIdx 0).foldl (fun (cs : Array Value) (p : Value × Nat) => cs.setIfInBounds (off + p.2) p.1) cells := by
    rw [← Array.foldl_toList]; simp
  obtain ⟨h1, h2⟩ := foldl_set_get off cs.toList 0 cells
  rw [e]
  refine ⟨h1, fun j => ?_⟩
  rw [h2 j (by simpa using h)]
  simp

theorem bld_fill (h : Repr g s a w blk) {places : List (Nat × Nat)} : ∀ (parts : List (Nat × Operand)) (ps : List (Nat × Nat × X)) (l : List AV) (cells : Array Value) (K : List AV → Prop), bldP places parts = some ps →
    cells.size = l.length → (∀ (j : Nat) (x : AV), l[j]? = some x → ∃ u, cells[j]? = some u ∧ RV1 w (Good g s.objs blk w) s.objs blk u x) → bldPs s ps l K →
    ∃ (l' : List AV) (cells' : Array Value), K l' ∧ Instr.fill (fun i => places[i]?) cells (parts.map fun p => (p.1, a.eval p.2)) = some cells' ∧ cells'.size = l'.length ∧
      ∀ (j : Nat) (x : AV), l'[j]? = some x → ∃ u, cells'[j]? = some u ∧ RV1 w (Good g s.objs blk w) s.objs blk u x
  | [], ps, l, cells, K, hb, hs, hr, hK => by
    cases hb
    exact ⟨l, cells, hK, rfl, hs, hr⟩
  | (i, o) :: parts, ps, l, cells, K, hb, hs, hr, hK => by
    simp only [bldP] at hb
    split at hb
    · rename_i off n x xs h1 h2 h3
      cases hb
      obtain ⟨k1, k2, k3, hK⟩ := hK
      obtain ⟨c1, c2⟩ := cellsOf_ok (h.ev h2) k2
      obtain ⟨f1, f2⟩ := fill_step off (a.eval o).cells cells (by omega)
      obtain ⟨l', cells', r1, r2, r3, r4⟩ := bld_fill h parts xs _ ((a.eval o).cells.zipIdx.foldl (fun cs (c, j) => cs.setIfInBounds (off + j) c) cells) K h3 (by rw [f1]; simp; omega) (by
        intro j y hy
        rw [f2]
        rw [splice_getL l _ off n k1 k3] at hy
        by_cases e1 : j < off
        · rw [if_pos e1] at hy; rw [if_neg (by omega)]; exact hr j y hy
        · rw [if_neg e1] at hy
          by_cases e2 : j < off + n
          · rw [if_pos e2] at hy; rw [if_pos (by omega)]
            obtain ⟨u, hu, hru⟩ := c2 _ y hy
            exact ⟨u, by simpa using hu, hru⟩
          · rw [if_neg e2] at hy; rw [if_neg (by omega)]; exact hr j y hy) hK
      refine ⟨l', cells', r1, ?_, r3, r4⟩
      simp only [List.map_cons, Instr.fill, h1]
      rw [if_neg (by simp; omega)]
      exact r2
    · cases hb

theorem bld_ok (h : Repr g s a w blk) (hd : ∀ i, o.dst = some i → i < g.N) {t : TypeId} {it : TypeInfo} {fields : Array Field} {z : Value} {parts : Array (Nat × Operand)} {places : List (Nat × Nat)} {ps : List (Nat × Nat × X)} {zs : List AV}
    (ho : o.op = .build t parts) (hi : P.info? t = some it) (ht : P.underlying t = some (.struct fields)) (hz : it.zero = some z) (hp : fields.toList.mapM (fun f => (P.info? f.type).map fun i => (f.offset, i.size)) = some places)
    (hb : bldP places parts.toList = some ps) (hzs : constAVs z.cells.toList = some zs) (hK : bldPs s ps zs fun l => K (s.put o.dst (.agg l))) : OpOk P g o a w K := by
  obtain ⟨c1, c2⟩ := constAVs_get hzs
  obtain ⟨l', cells', r1, r2, r3, r4⟩ := bld_fill h parts.toList ps zs z.cells _ hb (by simpa using c1.symm) (fun j x hx => by
    obtain ⟨u, hu, hr⟩ := c2 j x hx
    exact ⟨u, by simpa using hu, constAV_ok1 hr⟩) hK
  have hbuilt : P.built t (parts.map fun (i, x) => (i, a.eval x)).toList = some cells' := by
    simp only [Program.built, hi, ht, hz, hp]
    simpa using r2
  have hr := run_build (P := P) w t (parts.map fun (i, x) => (i, a.eval x)) cells' hbuilt
  refine OpOk.val2 h hd r1 (v := .agg cells') ?_ ⟨cells', rfl, r3, r4⟩
  simp only [execOp, ho, Sem.run_bind, hr, Result.andThen_ok, Sem.run_pure]

theorem fill_all (k : Nat) : ∀ (vs : List Value) (m : Nat) (cells : Array Value), (∀ v ∈ vs, v.cells.size = k) → cells.size = (m + vs.length) * k →
    ∃ cells' : Array Value, Instr.fill (fun i => some (i * k, k)) cells ((vs.zipIdx m).map fun p => (p.2, p.1)) = some cells' ∧ cells'.size = cells.size ∧ (∀ j, j < m * k → cells'[j]? = cells[j]?) ∧
      ∀ (i : Nat) (v : Value) (j : Nat), vs[i]? = some v → j < k → cells'[(m + i) * k + j]? = v.cells[j]?
  | [], m, cells, _, _ => ⟨cells, rfl, rfl, fun _ _ => rfl, fun i v j h => by simp at h⟩
  | v :: vs, m, cells, hk, hs => by
    have hv := hk v (by simp)
    have hmul : (m + (vs.length + 1)) * k = m * k + k + vs.length * k := by rw [Nat.add_mul, Nat.add_mul, Nat.one_mul]; omega
    simp only [List.length_cons] at hs
    obtain ⟨f1, f2⟩ := fill_step (m * k) v.cells cells (by omega)
    obtain ⟨cells', r1, r2, r3, r4⟩ := fill_all k vs (m + 1) (v.cells.zipIdx.foldl (fun cs (c, j) => cs.setIfInBounds (m * k + j) c) cells) (fun u hu => hk u (by simp [hu])) (by rw [f1, hs]; congr 1; omega)
    have hm1 : (m + 1) * k = m * k + k := by rw [Nat.add_mul, Nat.one_mul]
    refine ⟨cells', ?_, by rw [r2, f1], fun j hj => ?_, fun i u j hu hj => ?_⟩
    · simp only [List.zipIdx_cons, List.map_cons, Instr.fill]
      rw [if_neg (by simp; omega)]
      exact r1
    · rw [r3 j (by omega), f2 j, if_neg (by omega)]
    · cases i with
      | zero =>
        simp at hu; subst hu
        rw [Nat.add_zero, r3 _ (by omega), f2, if_pos (by omega)]
        congr 1; omega
      | succ i =>
        have := r4 i u j (by simpa using hu) hj
        rw [show m + 1 + i = m + (i + 1) from by omega] at this
        exact this

theorem partsX_get : ∀ (parts : List (Nat × Operand)) (m : Nat) (xs : List X), partsX m parts = some xs → xs.length = parts.length ∧ (parts.map fun p => (p.1, a.eval p.2)) = (((parts.map fun p => a.eval p.2).zipIdx m).map fun p => (p.2, p.1)) ∧ cxs (parts.map (·.2)) = some xs
  | [], m, xs, h => by cases h; exact ⟨rfl, rfl, rfl⟩
  | (i, o) :: parts, m, xs, h => by
    simp only [partsX] at h
    split at h
    · rename_i e
      split at h
      · rename_i x xs' h1 h2
        cases h
        obtain ⟨r1, r2, r3⟩ := partsX_get parts (m + 1) xs' h2
        subst e
        refine ⟨by simp [r1], by simp only [List.map_cons, List.zipIdx_cons]; rw [r2], by simp only [List.map_cons, cxs, h1, r3]⟩
      · cases h
    · cases h

theorem rowOf_ok {x : AV} {r : List C} {v : Value} (h : RVs g s w blk v x) (hx : x.rowOf = some r) : v.cells.size = r.length ∧ ∀ (j : Nat) (c : C), r[j]? = some c → ∃ u, v.cells[j]? = some u ∧ Rd w (Good g s.objs blk w) u c := by
  obtain ⟨h1, h2⟩ := toCs_get hx
  have hok : x.cellsOf.all AV.cellOk = true := by
    rw [List.all_eq_true]
    intro y hy
    obtain ⟨j, hj⟩ := List.getElem?_of_mem hy
    have hjl : j < r.length := by rw [h1]; exact (List.getElem?_eq_some_iff.1 hj).1
    obtain ⟨y', h3, h4⟩ := h2 j _ (List.getElem?_eq_getElem hjl)
    rw [hj] at h3; cases h3
    cases y <;> simp [AV.toC] at h4 <;> rfl
  obtain ⟨c1, c2⟩ := cellsOf_ok h hok
  refine ⟨by omega, fun j c hj => ?_⟩
  obtain ⟨y, h3, h4⟩ := h2 j c hj
  obtain ⟨u, hu, hr⟩ := c2 j y h3
  exact ⟨u, by simpa using hu, toC_ok1 hr h4⟩

theorem rowsOf_get : ∀ {l : List AV} {rows : List (List C)}, AV.rowsOf l = some rows → rows.length = l.length ∧ ∀ (j : Nat) (r : List C), rows[j]? = some r → ∃ x, l[j]? = some x ∧ x.rowOf = some r
  | [], cs, h => by cases h; exact ⟨rfl, fun j c hj => by simp at hj⟩
  | x :: l, cs, h => by
    simp only [AV.rowsOf] at h
    split at h
    · rename_i c1 cs1 h1 h2
      cases h
      obtain ⟨hl, hg⟩ := rowsOf_get h2
      refine ⟨by simp [hl], fun j c hj => ?_⟩
      cases j with
      | zero => simp at hj; subst hj; exact ⟨x, rfl, h1⟩
      | succ j => exact hg j c (by simpa using hj)
    · cases h

theorem bsl_ok (h : Repr g s a w blk) (hd : ∀ i, o.dst = some i → i < g.N) {t e : TypeId} {i : TypeInfo} {z : Value} {n : Nat} {parts : Array (Nat × Operand)} {xs : List X} (ho : o.op = .buildSlice t n parts) (ht : P.underlying t = some (.slice e)) (hi : P.info? e = some i) (hz : i.zero = some z)
    (hx : partsX 0 parts.toList = some xs) (hn : xs.length = n) (hmax : n * i.size ≤ 1000) (hpos : 0 < i.size) (hK : bslP i.size (xs.map s.ev) s o.dst K) : OpOk P g o a w K := by
  obtain ⟨p1, p2, p3⟩ := partsX_get (a := a) parts.toList 0 xs hx
  obtain ⟨e1, e2⟩ := h.evs p3
  unfold bslP at hK
  split at hK
  · rename_i rows hrows
    obtain ⟨hk, hK⟩ := hK
    obtain ⟨g1, g2⟩ := rowsOf_get hrows
    have hlen : rows.length = n := by rw [g1, List.length_map, hn]
    have hvals : ∀ (q : Nat) (r : List C), rows[q]? = some r → ∃ v, ((parts.toList.map (·.2)).map a.eval)[q]? = some v ∧ v.cells.size = r.length ∧ ∀ (j : Nat) (c : C), r[j]? = some c → ∃ u, v.cells[j]? = some u ∧ Rd w (Good g s.objs blk w) u c := by
      intro q r hq
      obtain ⟨x, hx1, hx2⟩ := g2 q r hq
      obtain ⟨v, hv, hr⟩ := e2 q x hx1
      exact ⟨v, hv, rowOf_ok hr hx2⟩
    have hvl : ((parts.toList.map (·.2)).map a.eval).length = n := by rw [e1, List.length_map, hn]
    obtain ⟨cells', f1, f2, f3, f4⟩ := fill_all i.size ((parts.toList.map (·.2)).map a.eval) 0 ((Array.range (n * i.size)).map ((if n * i.size = 0 then #[] else z.cells)[· % (if n * i.size = 0 then #[] else z.cells).size]!)) (by
      intro v hv
      obtain ⟨q, hq⟩ := List.getElem?_of_mem hv
      have hql : q < rows.length := by rw [hlen, ← hvl]; exact (List.getElem?_eq_some_iff.1 hq).1
      obtain ⟨v', h1, h2, _⟩ := hvals q _ (List.getElem?_eq_getElem hql)
      rw [hq] at h1; cases h1
      rw [h2]; exact hk _ (List.getElem_mem hql)) (by rw [Nat.zero_add, hvl]; simp)
    have hparts : parts.toList.map (fun x => (x.1, a.eval x.2)) = ((((parts.toList.map (·.2)).map a.eval).zipIdx 0).map fun p => (p.2, p.1)) := by
      rw [List.map_map]; exact p2
    rw [← hparts] at f1
    refine new_gen h hd (v := .slice (some ⟨w.heap.size, 0, none⟩) n n) (arr := cells') (e := e) ?_ ?_ ?_ hK
    · have hbig : ¬ (n * i.size > 2 ^ 24) := by omega
      by_cases h0 : n * i.size = 0
      · simp only [h0, if_true, Array.range_zero', Array.map_empty] at f1
        simp [execOp, ho, Instr.buildSlice, run_underlying ht, run_sizeOf' hi, h0, f1, newRow_run, Array.range_zero']
      · simp only [h0, if_false] at f1
        simp [execOp, ho, Instr.buildSlice, run_underlying ht, run_sizeOf' hi, h0, hbig, zeroValue, typeInfo, hi, hz, f1, newRow_run]
    · intro w' G' O' blk' KK hh
      refine .inr ⟨_, _, _, rfl, hh, by rw [f2, hlen]; simp, hk, fun q r j c hq hj => ?_⟩
      obtain ⟨v, h1, h2, h3⟩ := hvals q r hq
      obtain ⟨u, hu, hr⟩ := h3 j c hj
      have hjk : j < i.size := by rw [← hk r (List.mem_of_getElem? hq)]; exact (List.getElem?_eq_some_iff.1 hj).1
      have := f4 q v j h1 hjk
      rw [Nat.zero_add] at this
      exact ⟨u, by rw [this]; exact hu, hr.mono KK.good KK.cell⟩
    · intro d G' O' blk' hO hb hh
      refine ⟨_, hO, Nat.le_refl _, .inr ⟨_, n, _, _, hb, by rw [hlen], by omega, ?_, hh, by rw [f2]; simp⟩⟩
      have : n * 1 ≤ n * i.size := Nat.mul_le_mul_left _ hpos
      unfold maxLen; omega
  · exact hK.elim

end
end Go.Proofs.Ytenfgllkjgfjpaa
