/- The abstract machine, part 7: what a store into an own object and a new object do to the relation; stores; new boxes and rows. -/
import Derived.Test.YtenfgllkjgfjpaaCore6
set_option linter.all false
namespace Go.Proofs.Ytenfgllkjgfjpaa
open Go.RowKit

section
variable {w w' : World} {G G' : Nat → Prop} {O O' : Nat → Obj} {blk blk' : Nat → Option Nat} {b : Option Nat} {o : Obj}
theorem ObjOk.keep (K : Keeps w w' G G' O O' blk blk') (hs : ∀ q, b = some q → o ≠ .none → w'.heap[q]? = w.heap[q]?) (h : ObjOk w G O blk b o) : ObjOk w' G' O' blk' b o := by
  cases o with
  | none => trivial
  | box cells =>
    obtain ⟨q, arr, e, e1, e2, e3, e4⟩ := h
    exact ⟨q, arr, e, e1, by rw [hs q e1 (by simp)]; exact e2, e3, fun j x hx => let ⟨u, hu, hr⟩ := e4 j x hx; ⟨u, hu, hr.keep K⟩⟩
  | row k rows =>
    rcases h with h | ⟨q, arr, e, e1, e2, e3, e4, e5⟩
    · exact .inl h
    · exact .inr ⟨q, arr, e, e1, by rw [hs q e1 (by simp)]; exact e2, e3, e4, fun i r j c hr hc => let ⟨u, hu, hr⟩ := e5 i r j c hr hc; ⟨u, hu, hr.mono K.good K.cell⟩⟩
end

section
variable {g : Ghost} {s : St} {a : Act} {w : World} {blk : Nat → Option Nat}

theorem keeps_drew (G : Nat → Prop) (O : Nat → Obj) : Keeps w w.drew G G O O blk blk :=
  ⟨fun _ h => h, fun _ _ _ h => h, fun _ _ => ⟨Obj.like_refl _, rfl⟩, fun _ _ _ arr _ _ h => ⟨arr, h, rfl⟩⟩
theorem Repr.drew (h : Repr g s a w blk) : Repr g s a w.drew blk :=
  ⟨h.size, h.defers, h.below.drew, h.g0, fun t => (h.env t).keep (keeps_drew _ _), fun i => (h.objs i).keep (keeps_drew _ _) (fun _ _ _ => rfl), h.new, h.inj⟩

theorem below_setRow {B : Nat} {w0 : World} (h : Below B w0 w) {b : Nat} (hb : B ≤ b) (arr : Array Value) : Below B w0 (w.setRow b arr) :=
  ⟨h.os, h.tape, h.output, by rw [size_setRow]; exact h.size, fun k hk => by rw [setRow_other w b k arr (by omega)]; exact h.block k hk⟩

theorem Repr.setRow (h : Repr g s a w blk) {id b : Nat} {arr arr' : Array Value} {e : TypeId} {o' : Obj} (hlive : s.ob id ≠ .none) (hb : blk id = some b) (hh : w.heap[b]? = some (.cells arr e (0, 0))) (hs : arr'.size = arr.size)
    (hl : (s.ob id).like o')
    (ok : ∀ w' G' O', Keeps w w' (Good g s.objs blk w) G' s.objs O' blk blk → w'.heap[b]? = some (.cells arr' e (0, 0)) → ObjOk w' G' O' blk (some b) o') :
    Repr g (s.setOb id o') a (w.setRow b arr') blk := by
  have hO : ∀ i, (s.setOb id o').objs i = if i = id then o' else s.objs i := fun i => rfl
  have hgood : ∀ b0, Good g s.objs blk w b0 → b0 ≠ b := fun b0 hg e => hg.2 id hlive (by rw [hb, e])
  have hnew := h.new id b hlive hb
  have hset := setRow_heap w b arr arr' e (0, 0) hh
  have K : Keeps w (w.setRow b arr') (Good g s.objs blk w) (Good g (s.setOb id o').objs blk (w.setRow b arr')) s.objs (s.setOb id o').objs blk blk := by
    refine ⟨fun b0 hg => ⟨by rw [size_setRow]; exact hg.1, fun i hi => ?_⟩, fun ad u hg hc => ?_, fun i hi => ⟨?_, rfl⟩, fun i hi b2 arr2 e2 h1 h2 => ?_⟩
    · rw [hO] at hi
      split at hi
      · rename_i e; subst e; exact hg.2 _ hlive
      · exact hg.2 i hi
    · rw [World.cell?_of_block (setRow_other w b ad.block arr' (hgood _ hg))]; exact hc
    · rw [hO]
      split
      · rename_i e; subst e; exact hl
      · exact Obj.like_refl _
    · by_cases e : b2 = b
      · subst e
        rw [hh] at h2; cases h2
        exact ⟨arr', hset, hs⟩
      · exact ⟨arr2, by rw [setRow_other w b b2 arr' e]; exact h2, rfl⟩
  refine ⟨h.size, h.defers, below_setRow h.below hnew.1 arr', h.g0, fun t => (h.env t).keep K, fun i => ?_, fun i b0 hi hb0 => ?_, fun i j b0 hi hj => ?_⟩
  · rw [hO]
    split
    · rename_i e; subst e; rw [hb]; exact ok _ _ _ K hset
    · rename_i hne
      refine (h.objs i).keep K fun q hq hlv => setRow_other w b q arr' fun e => hne ?_
      subst e
      exact h.inj i id q hlv hlive hq hb
  · rw [size_setRow]
    rw [hO] at hi
    split at hi
    · rename_i e; subst e; exact h.new _ b0 hlive hb0
    · exact h.new i b0 hi hb0
  · rw [hO] at hi hj
    have hi' : s.objs i ≠ .none := by
      split at hi
      · rename_i e; subst e; exact hlive
      · exact hi
    have hj' : s.objs j ≠ .none := by
      split at hj
      · rename_i e; subst e; exact hlive
      · exact hj
    exact h.inj i j b0 hi' hj'

/-- A new block, and the object that lies in it. -/
theorem Repr.alloc (h : Repr g s a w blk) {d : Nat} {arr : Array Value} {e : TypeId} {o' : Obj} (hd : s.ob d = .none)
    (ok : ∀ w' G' O' blk', Keeps w w' (Good g s.objs blk w) G' s.objs O' blk blk' → w'.heap[w.heap.size]? = some (.cells arr e (0, 0)) → ObjOk w' G' O' blk' (some w.heap.size) o') :
    Repr g ⟨s.env, upd d o' s.objs⟩ a (w.alloc (.cells arr e)) (fun i => if i = d then some w.heap.size else blk i) := by
  have hO : ∀ i, upd d o' s.objs i = if i = d then o' else s.objs i := fun i => rfl
  have hd' : s.objs d = .none := hd
  have hge : g.w0.heap.size ≤ w.heap.size := h.below.size
  have hlt : ∀ b0, Good g s.objs blk w b0 → b0 < w.heap.size := fun b0 hg => by
    rcases hg.1 with h1 | h1
    · have := h.g0 b0 h1; omega
    · exact h1.2
  have K : Keeps w (w.alloc (.cells arr e)) (Good g s.objs blk w) (Good g (upd d o' s.objs) (fun i => if i = d then some w.heap.size else blk i) (w.alloc (.cells arr e)))
      s.objs (upd d o' s.objs) blk (fun i => if i = d then some w.heap.size else blk i) := by
    refine ⟨fun b0 hg => ⟨?_, fun i hi => ?_⟩, fun ad u hg hc => ?_, fun i hi => ?_, fun i hi b2 arr2 e2 h1 h2 => ?_⟩
    · rcases hg.1 with h1 | h1
      · exact .inl h1
      · exact .inr ⟨h1.1, by simp; omega⟩
    · have hb := hlt b0 hg
      by_cases e1 : i = d
      · simp only [e1, if_true]; intro e2; cases e2; omega
      · simp only [e1, if_false]
        rw [hO, if_neg e1] at hi
        exact hg.2 i hi
    · exact (World.cell?_alloc_lt w _ ad (hlt _ hg)).trans hc
    · have e1 : i ≠ d := fun e1 => hi (by rw [e1]; exact hd')
      rw [hO, if_neg e1, if_neg e1]
      exact ⟨Obj.like_refl _, rfl⟩
    · have := (h.new i b2 hi h1).2
      exact ⟨arr2, by rw [Below.heap_alloc w _ b2 this]; exact h2, rfl⟩
  refine ⟨h.size, h.defers, h.below.alloc hge _, h.g0, fun t => (h.env t).keep K, fun i => ?_, fun i b0 hi hb0 => ?_, fun i j b0 hi hj hbi hbj => ?_⟩
  · by_cases e1 : i = d
    · simp only [e1, if_true, upd_apply]
      exact ok _ _ _ _ K (heap_alloc_new w _)
    · simp only [e1, if_false, upd_apply]
      exact (h.objs i).keep K fun q hq hlv => Below.heap_alloc w _ q (h.new i q hlv hq).2
  · by_cases e1 : i = d
    · simp only [e1, if_true] at hb0; cases hb0; exact ⟨hge, by simp⟩
    · simp only [e1, if_false] at hb0
      replace hi : upd d o' s.objs i ≠ .none := hi; rw [hO, if_neg e1] at hi
      have := h.new i b0 hi hb0
      exact ⟨this.1, by simp; omega⟩
  · by_cases e1 : i = d <;> by_cases e2 : j = d
    · rw [e1, e2]
    · simp only [e1, e2, if_true, if_false] at hbi hbj
      replace hj : upd d o' s.objs j ≠ .none := hj; rw [hO, if_neg e2] at hj
      have := (h.new j b0 hj hbj).2
      cases hbi; omega
    · simp only [e1, e2, if_true, if_false] at hbi hbj
      replace hi : upd d o' s.objs i ≠ .none := hi; rw [hO, if_neg e1] at hi
      have := (h.new i b0 hi hbi).2
      cases hbj; omega
    · simp only [e1, e2, if_false] at hbi hbj
      replace hi : upd d o' s.objs i ≠ .none := hi; rw [hO, if_neg e1] at hi
      replace hj : upd d o' s.objs j ≠ .none := hj; rw [hO, if_neg e2] at hj
      exact h.inj i j b0 hi hj hbi hbj
end

section
variable {P : Program} {g : Ghost} {o : Oper} {s : St} {a : Act} {w : World} {blk : Nat → Option Nat} {K : St → Prop}

theorem ob_none {s : St} {d : Nat} (h : (s.ob d).isNone = true) : s.ob d = .none := by
  cases hs : s.ob d <;> simp_all [Obj.isNone]

theorem run_storeVar' {t : TypeId} {n : Nat} (hn : szOf P t = some n) {b off : Nat} {arr : Array Value} {e : TypeId} {v : Value} (hh : w.heap[b]? = some (.cells arr e (0, 0))) (hv : v.cells.size = n) (hfit : off + n ≤ arr.size)
    (h1 : ∀ u ∈ v.cells.toList, u.oneCell' = true) :
    (Instr.storeAt t (.pointer (some ⟨b, off, none⟩)) v).run P w = .ok () (w.setRow b (arr.toList.take off ++ v.cells.toList ++ arr.toList.drop (off + n)).toArray) := by
  obtain ⟨i, hi, hin⟩ := szOf_some hn
  have := run_storeCells_at P b off e v.cells.toList 0 arr w hh (by simp [hv]; omega) h1
  simp only [Nat.add_zero, Array.length_toList, hv] at this
  simp [Instr.storeAt, Instr.sureAddr, storeVar, run_sizeOf' hi, hv, hin, this]

theorem size_splice (arr : Array Value) (vs : List Value) (off n : Nat) (hn : vs.length = n) (hfit : off + n ≤ arr.size) : (arr.toList.take off ++ vs ++ arr.toList.drop (off + n)).toArray.size = arr.size := by
  simp [hn]; omega

theorem splice_get (arr : Array Value) (vs : List Value) (off n : Nat) (hn : vs.length = n) (hfit : off + n ≤ arr.size) (j : Nat) :
    (arr.toList.take off ++ vs ++ arr.toList.drop (off + n)).toArray[j]? = if j < off then arr[j]? else if j < off + n then vs[j - off]? else arr[j]? := by
  simp only [List.getElem?_toArray, List.append_assoc]
  by_cases h1 : j < off
  · rw [List.getElem?_append_left (by simp; omega), List.getElem?_take, if_pos h1, if_pos h1]; simp
  · rw [if_neg h1, List.getElem?_append_right (by simp; omega)]
    have hl : (arr.toList.take off).length = off := by simp; omega
    rw [hl]
    by_cases h2 : j < off + n
    · rw [if_pos h2, List.getElem?_append_left (by omega)]
    · rw [if_neg h2, List.getElem?_append_right (by omega), List.getElem?_drop]
      simp only [hn, Array.getElem?_toList]
      congr 1; omega

theorem splice_getL {α : Type} (arr vs : List α) (off n : Nat) (hn : vs.length = n) (hfit : off + n ≤ arr.length) (j : Nat) :
    (arr.take off ++ vs ++ arr.drop (off + n))[j]? = if j < off then arr[j]? else if j < off + n then vs[j - off]? else arr[j]? := by
  simp only [List.append_assoc]
  by_cases h1 : j < off
  · rw [List.getElem?_append_left (by simp; omega), List.getElem?_take, if_pos h1, if_pos h1]
  · rw [if_neg h1, List.getElem?_append_right (by simp; omega)]
    have hl : (arr.take off).length = off := by simp; omega
    rw [hl]
    by_cases h2 : j < off + n
    · rw [if_pos h2, List.getElem?_append_left (by omega)]
    · rw [if_neg h2, List.getElem?_append_right (by omega), List.getElem?_drop]
      congr 1; omega

theorem set_eq_splice {α : Type} (l : List α) (i : Nat) (x : α) (h : i < l.length) : l.set i x = l.take i ++ [x] ++ l.drop (i + 1) := by
  simp [List.set_eq_take_append_cons_drop, h]

/-- Values written into an own object's block, at a place. -/
theorem store_gen (h : Repr g s a w blk) {t : TypeId} {n b off id : Nat} {p q : Operand} {o' : Obj} {arr : Array Value} {e : TypeId} (ho : o.op = .store t p q) (hn : szOf P t = some n)
    (hp : a.eval p = .pointer (some ⟨b, off, none⟩)) (hlive : s.ob id ≠ .none) (hb : blk id = some b) (hh : w.heap[b]? = some (.cells arr e (0, 0)))
    (hv : (a.eval q).cells.size = n) (hfit : off + n ≤ arr.size) (h1 : ∀ u ∈ (a.eval q).cells.toList, u.oneCell' = true) (hl : (s.ob id).like o')
    (ok : ∀ w' G' O', Keeps w w' (Good g s.objs blk w) G' s.objs O' blk blk → w'.heap[b]? = some (.cells (arr.toList.take off ++ (a.eval q).cells.toList ++ arr.toList.drop (off + n)).toArray e (0, 0)) → ObjOk w' G' O' blk (some b) o')
    (hd : ∀ i, o.dst = some i → i < g.N) (hK : K ((s.setOb id o').put o.dst .und)) : OpOk P g o a w K := by
  have hr := run_storeVar' hn hh hv hfit h1
  have hrun : (execOp a.eval o).run P w = .ok .skip (w.setRow b (arr.toList.take off ++ (a.eval q).cells.toList ++ arr.toList.drop (off + n)).toArray) := by
    simp only [execOp, ho, Sem.run_bind, hp, hr, Result.andThen_ok, Sem.run_pure]
  refine ⟨.skip, _, hrun, _, blk, hK, ?_⟩
  exact (h.setRow hlive hb hh (size_splice arr _ off n (by simpa using hv) hfit) hl ok).put (v := undef) (x := .und) hd (show undef = undef from rfl)

theorem one_cells {v : Value} (h : v.cells = #[v]) : v.cells.size = 1 ∧ v.cells.toList = [v] := by rw [h]; exact ⟨rfl, rfl⟩

theorem toC_ok {v : Value} {x : AV} {c : C} (h : RVs g s w blk v x) (hx : x.toC = some c) : Rd w (Good g s.objs blk w) v c := by
  cases x <;> simp [AV.toC] at hx
  · subst hx; exact h
  · subst hx; obtain ⟨_, _, _, hr⟩ := h; exact hr

theorem st1_ok (h : Repr g s a w blk) (hd : ∀ i, o.dst = some i → i < g.N) {t : TypeId} {p q : Operand} {xp xq : X} (ho : o.op = .store t p q) (hn : szOf P t = some 1)
    (hp : cx p = some xp) (hq : cx q = some xq) (hK : st1P s (s.ev xp) (s.ev xq) fun s' => K (s'.put o.dst .und)) : OpOk P g o a w K := by
  have ep := h.ev hp; have eq := h.ev hq
  unfold st1P at hK
  split at hK
  · rename_i id off hx
    rw [hx] at ep
    obtain ⟨b, cells', hO', hb, e1⟩ := ep
    split at hK
    · rename_i cells hO
      obtain ⟨hlt, hok, hK⟩ := hK
      obtain ⟨arr, e, h1, h2, h3⟩ := h.box hO hb
      have hv := (RVs.one1 eq hok)
      obtain ⟨o1, o2⟩ := hv.one hok
      obtain ⟨o3, o4⟩ := one_cells o2
      refine store_gen h ho hn e1 (by rw [hO]; simp) hb h1 o3 (by omega) (by rw [o4]; simpa using o1) (by rw [hO]; trivial) ?_ hd hK
      intro w' G' O' KK hh
      refine ⟨b, _, e, rfl, hh, by rw [size_splice _ _ _ _ (by rw [o4]; rfl) (by omega)]; simpa using h2, fun j x hj => ?_⟩
      rw [splice_get _ _ _ _ (by rw [o4]; rfl) (by omega), o4]
      rw [List.getElem?_set] at hj
      by_cases e1 : off = j
      · subst e1
        rw [if_pos rfl, if_pos hlt] at hj
        cases hj
        exact ⟨_, by simp, hv.keep KK⟩
      · rw [if_neg e1] at hj
        obtain ⟨u, hu, hr⟩ := h3 j x hj
        refine ⟨u, ?_, hr.keep KK⟩
        split
        · exact hu
        · rw [if_neg (by omega)]; exact hu
    · exact hK.elim
  · rename_i id k i off hx
    rw [hx] at ep
    obtain ⟨b, rows', hO', hb, e1⟩ := ep
    split at hK
    · rename_i k' rows c hO hc
      obtain ⟨rfl, hlt, hoff, hK⟩ := hK
      obtain ⟨arr, e, h1, h2, h3, h4⟩ := h.row hO hb
      have hv := toC_ok eq hc
      obtain ⟨o3, o4⟩ := one_cells hv.cells
      have hr := getD_of (d := []) hlt
      have hl : (rows.getD i.toNat []).length = k' := h3 _ (List.mem_of_getElem? hr)
      have hle : (i.toNat + 1) * k' ≤ rows.length * k' := Nat.mul_le_mul_right _ hlt
      rw [Nat.add_mul, Nat.one_mul] at hle
      have hfit : i.toNat * k' + off + 1 ≤ arr.size := by omega
      refine store_gen h ho hn e1 (by rw [hO]; simp) hb h1 o3 hfit (by rw [o4]; simpa using hv.one) (by rw [hO]; exact ⟨rfl, by simp⟩) ?_ hd hK
      intro w' G' O' KK hh
      refine .inr ⟨b, _, e, rfl, hh, by rw [size_splice _ _ _ _ (by rw [o4]; rfl) hfit]; simpa using h2, ?_, fun i2 r j c2 hr2 hc2 => ?_⟩
      · intro r hr2
        rcases List.mem_or_eq_of_mem_set hr2 with h5 | h5
        · exact h3 r h5
        · rw [h5, List.length_set]; exact hl
      · rw [splice_get _ _ _ _ (by rw [o4]; rfl) hfit, o4]
        rw [List.getElem?_set] at hr2
        by_cases e2 : i.toNat = i2
        · subst e2
          rw [if_pos rfl, if_pos hlt] at hr2
          cases hr2
          rw [List.getElem?_set] at hc2
          by_cases e3 : off = j
          · subst e3
            rw [if_pos rfl, if_pos (by omega)] at hc2
            cases hc2
            exact ⟨_, by simp, hv.mono KK.good KK.cell⟩
          · rw [if_neg e3] at hc2
            obtain ⟨u, hu, hru⟩ := h4 _ _ j c2 hr hc2
            refine ⟨u, ?_, hru.mono KK.good KK.cell⟩
            split
            · exact hu
            · rw [if_neg (by omega)]; exact hu
        · rw [if_neg e2] at hr2
          obtain ⟨u, hu, hru⟩ := h4 i2 r j c2 hr2 hc2
          have hj : j < k' := by rw [← h3 r (List.mem_of_getElem? hr2)]; exact (List.getElem?_eq_some_iff.1 hc2).1
          refine ⟨u, ?_, hru.mono KK.good KK.cell⟩
          split
          · exact hu
          · rename_i hge
            rw [if_neg ?_]; exact hu
            intro hlt2
            rcases Nat.lt_or_gt_of_ne e2 with h6 | h6
            · have : (i.toNat + 1) * k' ≤ i2 * k' := Nat.mul_le_mul_right _ h6
              rw [Nat.add_mul, Nat.one_mul] at this
              omega
            · have : (i2 + 1) * k' ≤ i.toNat * k' := Nat.mul_le_mul_right _ h6
              rw [Nat.add_mul, Nat.one_mul] at this
              omega
    · exact hK.elim
  · exact hK.elim

end
end Go.Proofs.Ytenfgllkjgfjpaa
