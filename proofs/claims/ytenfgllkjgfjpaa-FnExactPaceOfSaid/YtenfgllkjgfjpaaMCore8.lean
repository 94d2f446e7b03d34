/- The abstract machine, part 8: stores. -/
import Derived.Test.YtenfgllkjgfjpaaMCore7
set_option linter.all false
namespace Go.Proofs.Ytenfgllkjgfjpaa
open Go.RowKit

section
variable {P : Program} {g : Ghost} {o : Oper} {s : St} {a : Act} {w : World} {blk : Lay} {K : St → Prop}

theorem ob_none {s : St} {d : Nat} (h : (s.ob d).isNone = true) : s.ob d = .none := by
  cases hs : s.ob d <;> simp_all [Obj.isNone]

theorem run_storeVar' {t : TypeId} {n : Nat} (hn : szOf P t = some n) {b off : Nat} {arr : Array Value} {e : TypeId} {v : Value} (hh : w.heap[b]? = some (.cells arr e (0, 0))) (hv : v.cells.size = n) (hfit : off + n ≤ arr.size)
    (h1 : ∀ u ∈ v.cells.toList, u.oneCell' = true) :
    (Instr.storeAt t (.pointer (some ⟨b, off, none⟩)) v).run P w = .ok () (w.setRow b (arr.toList.take off ++ v.cells.toList ++ arr.toList.drop (off + n)).toArray) := by
  obtain ⟨i, hi, hin⟩ := szOf_some hn
  have := run_storeCells_at P b off e v.cells.toList 0 arr w hh (by simp [hv]; omega) h1
  simp only [Nat.add_zero, Array.length_toList, hv] at this
  simp [Instr.storeAt, Instr.sureAddr, storeVar, run_sizeOf' hi, hv, hin, this]

theorem size_splice (arr : Array Value) (vs : List Value) (off n : Nat) (hn : vs.length = n) (hfit : off + n ≤ arr.size) : (arr.toList.take off ++ vs ++ arr.toList.drop (off + n)).toArray.size = arr.size := by
  simp [hn]; omega

theorem splice_get (arr : Array Value) (vs : List Value) (off n : Nat) (hn : vs.length = n) (hfit : off + n ≤ arr.size) (j : Nat) :
    (arr.toList.take off ++ vs ++ arr.toList.drop (off + n)).toArray[j]? = if j < off then arr[j]? else if j < off + n then vs[j - off]? else arr[j]? := by
  simp only [List.getElem?_toArray, List.append_assoc]
  by_cases h1 : j < off
  · rw [List.getElem?_append_left (by simp; omega), List.getElem?_take, if_pos h1, if_pos h1]; simp
  · rw [if_neg h1, List.getElem?_append_right (by simp; omega)]
    have hl : (arr.toList.take off).length = off := by simp; omega
    rw [hl]
    by_cases h2 : j < off + n
    · rw [if_pos h2, List.getElem?_append_left (by omega)]
    · rw [if_neg h2, List.getElem?_append_right (by omega), List.getElem?_drop]
      simp only [hn, Array.getElem?_toList]
      congr 1; omega

theorem splice_getL {α : Type} (arr vs : List α) (off n : Nat) (hn : vs.length = n) (hfit : off + n ≤ arr.length) (j : Nat) :
    (arr.take off ++ vs ++ arr.drop (off + n))[j]? = if j < off then arr[j]? else if j < off + n then vs[j - off]? else arr[j]? := by
  simp only [List.append_assoc]
  by_cases h1 : j < off
  · rw [List.getElem?_append_left (by simp; omega), List.getElem?_take, if_pos h1, if_pos h1]
  · rw [if_neg h1, List.getElem?_append_right (by simp; omega)]
    have hl : (arr.take off).length = off := by simp; omega
    rw [hl]
    by_cases h2 : j < off + n
    · rw [if_pos h2, List.getElem?_append_left (by omega)]
    · rw [if_neg h2, List.getElem?_append_right (by omega), List.getElem?_drop]
      congr 1; omega

theorem set_eq_splice {α : Type} (l : List α) (i : Nat) (x : α) (h : i < l.length) : l.set i x = l.take i ++ [x] ++ l.drop (i + 1) := by
  simp [List.set_eq_take_append_cons_drop, h]

/-- Values written into an own object's block, at a place. -/
theorem store_gen (h : Repr g s a w blk) {t : TypeId} {n b off id : Nat} {p q : Operand} {o' : Obj} {arr : Array Value} {e : TypeId} (ho : o.op = .store t p q) (hn : szOf P t = some n)
    (hp : a.eval p = .pointer (some ⟨b, off, none⟩)) (hlive : s.ob id ≠ .none) (hb : blk id = some b) (hh : w.heap[b]? = some (.cells arr e (0, 0)))
    (hv : (a.eval q).cells.size = n) (hfit : off + n ≤ arr.size) (h1 : ∀ u ∈ (a.eval q).cells.toList, u.oneCell' = true) (hl : (s.ob id).like o') (hne : ∀ k v rows, s.ob id ≠ .tr k v rows)
    (ok : ∀ w' G' O', Keeps w w' (Good g s.objs blk w) G' s.objs O' blk blk → w'.heap[b]? = some (.cells (arr.toList.take off ++ (a.eval q).cells.toList ++ arr.toList.drop (off + n)).toArray e (0, 0)) → ObjOk w' G' O' blk (blk.sub id) (some b) o')
    (hd : ∀ i, o.dst = some i → i < g.N) (hK : K ((s.setOb id o').put o.dst .und)) : OpOk P g o a w K := by
  have hr := run_storeVar' hn hh hv hfit h1
  have hrun : (execOp a.eval o).run P w = .ok .skip (w.setRow b (arr.toList.take off ++ (a.eval q).cells.toList ++ arr.toList.drop (off + n)).toArray) := by
    simp only [execOp, ho, Sem.run_bind, hp, hr, Result.andThen_ok, Sem.run_pure]
  refine ⟨.skip, _, hrun, _, blk, hK, ?_⟩
  exact (h.setRow hlive hb hh (size_splice arr _ off n (by simpa using hv) hfit) hl (fun k v rows e => absurd e (hne k v rows)) (fun w' G' O' K hh' _ => ok w' G' O' K hh')).put (v := undef) (x := .und) hd (show undef = undef from rfl)

theorem skip_run {t : TypeId} {p q : Operand} {w' : World} (ho : o.op = .store t p q) (hr : (Instr.storeAt t (a.eval p) (a.eval q)).run P w = .ok () w') : (execOp a.eval o).run P w = .ok .skip w' := by
  simp only [execOp, ho, Sem.run_bind, hr, Result.andThen_ok, Sem.run_pure]
theorem one_cells {v : Value} (h : v.cells = #[v]) : v.cells.size = 1 ∧ v.cells.toList = [v] := by rw [h]; exact ⟨rfl, rfl⟩

theorem toC_ok1 {G : Nat → Prop} {O : Nat → Obj} {bl : Nat → Option Nat} {v : Value} {x : AV} {c : C} (h : RV1 w G O bl v x) (hx : x.toC = some c) : Rd w G v c := by
  cases x <;> simp [AV.toC] at hx
  · subst hx; exact h
  · subst hx
    cases h
    exact .sl (fun _ _ => default) rfl (Nat.le_refl _) (by unfold maxLen; omega) (by simp) (by simp) (by simp) (by simp)
  · subst hx; obtain ⟨_, _, _, hr⟩ := h; exact hr
theorem toC_ok {v : Value} {x : AV} {c : C} (h : RVs g s w blk v x) (hx : x.toC = some c) : Rd w (Good g s.objs blk w) v c := by
  cases x <;> simp [AV.toC] at hx
  · subst hx; exact h
  · subst hx; exact toC_ok1 (O := s.objs) (bl := blk) (x := .nil _) h rfl
  · subst hx; obtain ⟨_, _, _, hr⟩ := h; exact hr

theorem toCs_get : ∀ {l : List AV} {cs : List C}, AV.toCs l = some cs → cs.length = l.length ∧ ∀ (j : Nat) (c : C), cs[j]? = some c → ∃ x, l[j]? = some x ∧ x.toC = some c
  | [], cs, h => by cases h; exact ⟨rfl, fun j c hj => by simp at hj⟩
  | x :: l, cs, h => by
    simp only [AV.toCs] at h
    split at h
    · rename_i c1 cs1 h1 h2
      cases h
      obtain ⟨hl, hg⟩ := toCs_get h2
      refine ⟨by simp [hl], fun j c hj => ?_⟩
      cases j with
      | zero => simp at hj; subst hj; exact ⟨x, rfl, h1⟩
      | succ j => exact hg j c (by simpa using hj)
    · cases h

theorem agg_cells {l : List AV} {v : Value} (h : RVs g s w blk v (.agg l)) : v.cells.size = l.length ∧
    ∀ (j : Nat) (x : AV), l[j]? = some x → ∃ u, v.cells.toList[j]? = some u ∧ RV1 w (Good g s.objs blk w) s.objs blk u x := by
  obtain ⟨arr, rfl, h1, h2⟩ := h
  exact ⟨h1, fun j x hx => let ⟨u, hu, hr⟩ := h2 j x hx; ⟨u, by simpa [Value.cells] using hu, hr⟩⟩

theorem cellsOf_ok {x : AV} {v : Value} (h : RVs g s w blk v x) (hok : x.cellsOf.all AV.cellOk = true) : v.cells.size = x.cellsOf.length ∧
    ∀ (j : Nat) (y : AV), x.cellsOf[j]? = some y → ∃ u, v.cells.toList[j]? = some u ∧ RV1 w (Good g s.objs blk w) s.objs blk u y := by
  have other : x.cellsOf = [x] → v.cells.size = x.cellsOf.length ∧ ∀ (j : Nat) (y : AV), x.cellsOf[j]? = some y → ∃ u, v.cells.toList[j]? = some u ∧ RV1 w (Good g s.objs blk w) s.objs blk u y := by
    intro e
    rw [e] at hok ⊢
    have hx : x.cellOk = true := by simpa using hok
    have h1 := h.one1 hx
    obtain ⟨_, h2⟩ := h1.one hx
    refine ⟨by rw [h2]; rfl, fun j y hj => ?_⟩
    cases j with
    | zero => simp at hj; subst hj; exact ⟨v, by rw [h2]; rfl, h1⟩
    | succ j => simp at hj
  cases x with
  | agg l => exact agg_cells h
  | _ => exact other rfl

theorem all_one {l : List AV} (hok : l.all AV.cellOk = true) {us : List Value} (hl : us.length = l.length) {G : Nat → Prop} {O : Nat → Obj}
    (h : ∀ (j : Nat) (x : AV), l[j]? = some x → ∃ u, us[j]? = some u ∧ RV1 w G O blk u x) : ∀ u ∈ us, u.oneCell' = true := by
  intro u hu
  obtain ⟨j, hj⟩ := List.getElem?_of_mem hu
  have hlt : j < l.length := by rw [← hl]; exact (List.getElem?_eq_some_iff.1 hj).1
  obtain ⟨u', hu', hr⟩ := h j _ (List.getElem?_eq_getElem hlt)
  rw [hj] at hu'; cases hu'
  exact (hr.one (List.all_eq_true.1 hok _ (List.getElem_mem hlt))).1

theorem all_one_C {cs : List C} {us : List Value} (hl : us.length = cs.length) {G : Nat → Prop}
    (h : ∀ (j : Nat) (c : C), cs[j]? = some c → ∃ u, us[j]? = some u ∧ Rd w G u c) : ∀ u ∈ us, u.oneCell' = true := by
  intro u hu
  obtain ⟨j, hj⟩ := List.getElem?_of_mem hu
  have hlt : j < cs.length := by rw [← hl]; exact (List.getElem?_eq_some_iff.1 hj).1
  obtain ⟨u', hu', hr⟩ := h j _ (List.getElem?_eq_getElem hlt)
  rw [hj] at hu'; cases hu'
  exact hr.one


/-! What is given away. -/
/-- The slice of an own row, given away with its block. -/
theorem own_ot (h : Repr g s a w blk) {id k n : Nat} {v : Value} (hv : RV1 w (Good g s.objs blk w) s.objs blk v (.own id k n)) {c : C} {ids : List Nat} (hp : pk1 s (.own id k n) = some (c, ids)) :
    ids = [id] ∧ s.objs id ≠ .none ∧ OT w (Good g s.objs blk w) v c (blk.fp id) := by
  obtain ⟨m, ho, hn, hv⟩ := hv
  simp only [pk1] at hp
  split at hp
  · rename_i k' rows hO
    split at hp
    · rename_i e
      subst e
      cases hp
      have hO' : s.objs id = .row k' rows := hO
      rw [hO'] at ho; cases ho
      refine ⟨rfl, by rw [hO']; simp, ?_⟩
      rcases hv with ⟨hb, rfl, A0, rfl⟩ | ⟨b, cap, arr, e, hb, rfl, h1, h2, h3, h4⟩
      · simp only [List.take_zero]; exact .ow0
      · obtain ⟨arr', e', r1, r2, r3, r4⟩ := h.row hO hb
        rw [h3] at r1; cases r1
        have get : ∀ (i : Nat) (r : List C), (rows.take n)[i]? = some r → rows[i]? = some r := by
          intro i r hr
          rw [List.getElem?_take] at hr
          split at hr
          · exact hr
          · cases hr
        refine .ow (fun i j => (arr[i * k' + j]?).getD default) h3 (by simp; omega) h1 h2 h4 (fun r hr => r3 r (List.mem_of_mem_take hr)) (.inl hb) (fun i r hr j c hc => ?_) (fun i r hr j c hc => ?_)
        · obtain ⟨u, hu, hru⟩ := r4 i r j c (get i r hr) hc
          rw [hu]; rfl
        · obtain ⟨u, hu, hru⟩ := r4 i r j c (get i r hr) hc
          rw [hu]; exact hru
    · cases hp
  · rename_i k' ver rows hO
    split at hp
    · rename_i e
      subst e
      cases hp
      have hO' : s.objs id = .tr k' ver rows := hO
      rw [hO'] at ho; cases ho
      refine ⟨rfl, by rw [hO']; simp, ?_⟩
      rcases hv with ⟨hb, rfl, A0, rfl⟩ | ⟨b, cap, arr, e, hb, rfl, h1, h2, h3, h4⟩
      · simp only [List.take_zero]; exact .ot0
      · obtain ⟨arr', e', r1, r2, r3, vals, Fs, r4, r5, r6, r7⟩ := h.tree hO hb
        rw [h3] at r1; cases r1
        have get : ∀ (i : Nat) (r : List C), (rows.take n)[i]? = some r → rows[i]? = some r := by
          intro i r hr
          rw [List.getElem?_take] at hr
          split at hr
          · exact hr
          · cases hr
        exact .ot vals Fs h3 (by simp; omega) h1 h2 h4 (fun r hr => r3 r (List.mem_of_mem_take hr)) (.inl hb) (fun i j x hx => ⟨.inr (r4 i j x hx).1, (r4 i j x hx).2⟩) r5 (fun i r hr j c hc => r6 i r (get i r hr) j c hc) (fun i r hr j c hc => r7 i r (get i r hr) j c hc)
    · cases hp
  · cases hp

theorem pk1_ok (h : Repr g s a w blk) {v : Value} {x : AV} {c : C} {ids : List Nat} (hv : RV1 w (Good g s.objs blk w) s.objs blk v x) (hp : pk1 s x = some (c, ids)) :
    ∃ F, OT w (Good g s.objs blk w) v c F ∧ ∀ y, F y → ∃ i0, i0 ∈ ids ∧ s.objs i0 ≠ .none ∧ blk.fp i0 y := by
  cases x with
  | c x =>
    simp only [pk1] at hp
    split at hp
    · cases hp; exact ⟨noF, .sh hv, fun y hy => hy.elim⟩
    · cases hp
  | clip k rows => cases hp; exact ⟨noF, .sh (toC_ok1 hv rfl), fun y hy => hy.elim⟩
  | nil k => cases hp; exact ⟨noF, .sh (toC_ok1 hv rfl), fun y hy => hy.elim⟩
  | own id k n =>
    obtain ⟨rfl, h1, h2⟩ := own_ot h hv hp
    exact ⟨_, h2, fun y hy => ⟨id, by simp, h1, hy⟩⟩
  | _ => cases hp

theorem pkl_ok (h : Repr g s a w blk) : ∀ {l : List AV} {us : List Value} {cs : List C} {ids : List Nat}, pkl s l = some (cs, ids) →
    (∀ (j : Nat) (x : AV), l[j]? = some x → ∃ u, us[j]? = some u ∧ RV1 w (Good g s.objs blk w) s.objs blk u x) → ids.Nodup →
    ∃ Fs : Nat → Nat → Prop, cs.length = l.length ∧ (∀ (j : Nat) (c : C), cs[j]? = some c → ∃ u, us[j]? = some u ∧ OT w (Good g s.objs blk w) u c (Fs j)) ∧
      (∀ j y, Fs j y → ∃ i0, i0 ∈ ids ∧ s.objs i0 ≠ .none ∧ blk.fp i0 y) ∧ (∀ j j' y, Fs j y → Fs j' y → j = j')
  | [], us, cs, ids, hp, _, _ => by
    cases hp
    exact ⟨fun _ => noF, rfl, fun j c hj => by simp at hj, fun _ _ h => h.elim, fun _ _ _ h => h.elim⟩
  | x :: l, us, cs, ids, hp, hv, hnd => by
    simp only [pkl] at hp
    split at hp
    · rename_i c a1 cs1 as1 h1 h2
      cases hp
      obtain ⟨u0, hu0, hr0⟩ := hv 0 x rfl
      obtain ⟨F0, hF0, hF0i⟩ := pk1_ok h hr0 h1
      have hnd' := List.nodup_append.1 hnd
      obtain ⟨Fs, e1, e2, e3, e4⟩ := pkl_ok h (us := us.tail) h2 (fun j y hj => by
        obtain ⟨u, hu, hr⟩ := hv (j + 1) y (by simpa using hj)
        exact ⟨u, by simpa [List.getElem?_tail] using hu, hr⟩) hnd'.2.1
      refine ⟨fun j => match j with | 0 => F0 | j + 1 => Fs j, by simp [e1], fun j c' hj => ?_, fun j y hy => ?_, fun j j' y hy hy' => ?_⟩
      · cases j with
        | zero => simp at hj; subst hj; exact ⟨u0, hu0, hF0⟩
        | succ j =>
          obtain ⟨u, hu, hr⟩ := e2 j c' (by simpa using hj)
          exact ⟨u, by simpa [List.getElem?_tail] using hu, hr⟩
      · cases j with
        | zero => obtain ⟨i0, m1, m2⟩ := hF0i y hy; exact ⟨i0, List.mem_append_left _ m1, m2⟩
        | succ j => obtain ⟨i0, m1, m2⟩ := e3 j y hy; exact ⟨i0, List.mem_append_right _ m1, m2⟩
      · have cross : ∀ j, F0 y → Fs j y → False := by
          intro j q1 q2
          obtain ⟨i0, m1, m2, m3⟩ := hF0i y q1
          obtain ⟨i1, n1, n2, n3⟩ := e3 j y q2
          have := h.inj i0 i1 y m2 n2 m3 n3
          subst this
          exact hnd'.2.2 i0 m1 i0 n1 rfl
        cases j with
        | zero => cases j' with
          | zero => rfl
          | succ j' => exact (cross j' hy hy').elim
        | succ j => cases j' with
          | zero => exact (cross j hy' hy).elim
          | succ j' => rw [e4 j j' y hy hy']
    · cases hp

/-- Cells of a tree are written anew; what is put there is given away. -/
theorem Repr.storeTree (h : Repr g s a w blk) {id k ver b i off n : Nat} {rows : List (List C)} {arr : Array Value} {e : TypeId} (hO : s.ob id = .tr k ver rows) (hb : blk id = some b) (hh : w.heap[b]? = some (.cells arr e (0, 0))) (hi : i < rows.length) (hoff : off + n ≤ k)
    {vs : List Value} {cs : List C} {ids : List Nat} {Fs : Nat → Nat → Prop} (hvs : vs.length = n) (hcs : cs.length = n) (hid : id ∉ ids)
    (hot : ∀ (j : Nat) (c : C), cs[j]? = some c → ∃ u, vs[j]? = some u ∧ OT w (Good g s.objs blk w) u c (Fs j))
    (hF : ∀ j y, Fs j y → ∃ i0, i0 ∈ ids ∧ s.objs i0 ≠ .none ∧ blk.fp i0 y) (hdis : ∀ j j' y, Fs j y → Fs j' y → j = j') :
    ∃ L', Repr g ((s.drops ids).setOb id (.tr k (ver + 1) (rows.set i ((rows.getD i []).take off ++ cs ++ (rows.getD i []).drop (off + n))))) a (w.setRow b (arr.toList.take (i * k + off) ++ vs ++ arr.toList.drop (i * k + off + n)).toArray) L' := by
  obtain ⟨arr', e', t1, t2, t3, vals0, Fs0, t4, t5, t6, t7⟩ := h.tree hO hb
  rw [hh] at t1; cases t1
  have hO' : s.objs id = .tr k ver rows := hO
  have hlive : s.objs id ≠ .none := by rw [hO']; simp
  have hr := getD_of (d := []) hi
  have hl : (rows.getD i []).length = k := t3 _ (List.mem_of_getElem? hr)
  have hle : (i + 1) * k ≤ rows.length * k := Nat.mul_le_mul_right _ hi
  rw [Nat.add_mul, Nat.one_mul] at hle
  have hfit : i * k + off + n ≤ arr.size := by omega
  have hset := setRow_heap w b arr (arr.toList.take (i * k + off) ++ vs ++ arr.toList.drop (i * k + off + n)).toArray e (0, 0) hh
  have hsz := size_splice arr vs (i * k + off) n hvs hfit
  have fpb : ∀ y, (∃ i0, i0 ∈ ids ∧ s.objs i0 ≠ .none ∧ blk.fp i0 y) → y ≠ b ∧ ¬ blk.sub id y ∧ y < w.heap.size := by
    rintro y ⟨i0, m1, m2, m3⟩
    refine ⟨fun e => ?_, fun hs => ?_, (h.new i0 y m2 m3).2⟩
    · have := h.inj i0 id y m2 hlive m3 (.inl (by rw [e]; exact hb))
      subst this; exact hid m1
    · have := h.inj i0 id y m2 hlive m3 (.inr hs)
      subst this; exact hid m1
  refine ⟨blk.upd id (some b) (fun y => blk.sub id y ∨ ∃ i0, i0 ∈ ids ∧ s.objs i0 ≠ .none ∧ blk.fp i0 y), ?_⟩
  have hst : ∀ o', (s.drops ids).setOb id o' = ⟨fun t => (s.env t).kills ids, upd id o' (s.drops ids).objs⟩ := by
    intro o'
    unfold St.setOb
    congr 1
    funext t
    exact St.drops_env ids s t
  rw [hst]
  have hup : ∀ (o' : Obj) j, upd id o' (s.drops ids).objs j = if j = id then o' else (s.drops ids).objs j := fun _ _ => rfl
  refine h.turn ids (fun j => j = id) (off_setRow w b arr _ e hh hsz) (fun y hy => ⟨id, .inl rfl, hlive, .inl (by rw [hy]; exact hb)⟩) (fun j hj => ?_) (fun j y hj _ hf => ?_) (fun j j' y hj hj' _ _ _ _ => hj.trans hj'.symm) (fun j y hj _ hr' => ?_) (fun j hj _ _ => ?_) (fun j k' v' rows' hj _ hk => ?_) (fun G' K j hj => ?_)
  · exact ⟨by rw [hup, if_neg hj, St.drops_objs], by rw [Lay.upd_root, if_neg hj], by rw [Lay.upd_sub, if_neg hj]⟩
  · subst hj
    rw [Lay.upd_fp, if_pos rfl] at hf
    rcases hf with hf | hf | ⟨i0, m1, m2, m3⟩
    · cases hf; exact .inl ⟨j, .inl rfl, hlive, .inl hb⟩
    · exact .inl ⟨j, .inl rfl, hlive, .inr hf⟩
    · exact .inl ⟨i0, .inr m1, m2, m3⟩
  · subst hj
    rw [Lay.upd_root, if_pos rfl] at hr'
    cases hr'
    rw [Lay.upd_sub, if_pos rfl]
    rintro (hs | hs)
    · exact h.apart j b hlive hb hs
    · exact (fpb b hs).1 rfl
  · subst hj
    rw [hup, if_pos rfl, hO', Lay.upd_root, if_pos rfl]
    exact ⟨⟨rfl, by simp, by omega, fun e => by omega⟩, hb.symm⟩
  · subst hj
    rw [hup, if_pos rfl]
    rw [hO'] at hk; cases hk
    intro e; cases e
  · subst hj
    rw [hup, if_pos rfl, Lay.upd_root, if_pos rfl, Lay.upd_sub, if_pos rfl]
    refine .inr ⟨b, _, e, rfl, hset, by rw [hsz]; simpa using t2, fun r hr2 => ?_, ?_⟩
    · rcases List.mem_or_eq_of_mem_set hr2 with h5 | h5
      · exact t3 r h5
      · rw [h5]; simp only [List.length_append, List.length_take, List.length_drop, hl, hcs]; omega
    · have mono : ∀ {v : Value} {c : C} {F : Nat → Prop}, OT w (Good g s.objs blk w) v c F → (∀ y, F y → y ≠ b) → OT (w.setRow b (arr.toList.take (i * k + off) ++ vs ++ arr.toList.drop (i * k + off + n)).toArray) G' v c F := fun ho hF => ho.mono K.good K.cell (fun _ h => h) fun y hy => setRow_other w b y _ (hF y hy)
      refine ⟨fun i2 j2 => if i2 = i ∧ off ≤ j2 ∧ j2 < off + n then (vs[j2 - off]?).getD undef else vals0 i2 j2, fun i2 j2 => if i2 = i ∧ off ≤ j2 ∧ j2 < off + n then Fs (j2 - off) else Fs0 i2 j2, fun i2 j2 y hy => ?_, fun i2 j2 i3 j3 y hy hy' => ?_, fun i2 r hr2 j2 c hc => ?_, fun i2 r hr2 j2 c hc => ?_⟩
      · dsimp only at hy
        split at hy
        · have := hF _ y hy
          exact ⟨.inr this, (fpb y this).1⟩
        · exact ⟨.inl (t4 _ _ y hy).1, (t4 _ _ y hy).2⟩
      · dsimp only at hy hy'
        split at hy <;> split at hy'
        · rename_i h1 h2
          have := hdis _ _ y hy hy'
          omega
        · exact absurd (t4 _ _ y hy').1 (fpb y (hF _ y hy)).2.1
        · exact absurd (t4 _ _ y hy).1 (fpb y (hF _ y hy')).2.1
        · exact t5 _ _ _ _ y hy hy'
      · dsimp only
        rw [splice_get _ _ _ _ hvs hfit]
        rw [List.getElem?_set] at hr2
        by_cases e2 : i = i2
        · subst e2
          rw [if_pos rfl, if_pos hi] at hr2
          cases hr2
          rw [splice_getL _ _ _ _ hcs (by omega)] at hc
          split at hc
          · rename_i h7
            rw [if_pos (by omega), if_neg (by omega)]
            exact t6 _ _ hr _ _ hc
          · rename_i h7
            split at hc
            · rename_i h8
              obtain ⟨u, hu, _⟩ := hot _ c hc
              rw [if_neg (by omega), if_pos (by omega), if_pos (by omega), hu, show i * k + j2 - (i * k + off) = j2 - off by omega, hu]; rfl
            · rename_i h8
              rw [if_neg (by omega), if_neg (by omega), if_neg (by omega)]
              exact t6 _ _ hr _ _ hc
        · rw [if_neg e2] at hr2
          have hj : j2 < k := by rw [← t3 r (List.mem_of_getElem? hr2)]; exact (List.getElem?_eq_some_iff.1 hc).1
          have hold := t6 i2 r hr2 j2 c hc
          rw [if_neg (show ¬ (i2 = i ∧ _) from fun h => e2 h.1.symm)]
          split
          · exact hold
          · rename_i hge
            rw [if_neg ?_]; exact hold
            intro hlt2
            rcases Nat.lt_or_gt_of_ne e2 with h6 | h6
            · have : (i + 1) * k ≤ i2 * k := Nat.mul_le_mul_right _ h6
              rw [Nat.add_mul, Nat.one_mul] at this
              omega
            · have : (i2 + 1) * k ≤ i * k := Nat.mul_le_mul_right _ h6
              rw [Nat.add_mul, Nat.one_mul] at this
              omega
      · dsimp only
        rw [List.getElem?_set] at hr2
        by_cases e2 : i = i2
        · subst e2
          rw [if_pos rfl, if_pos hi] at hr2
          cases hr2
          rw [splice_getL _ _ _ _ hcs (by omega)] at hc
          split at hc
          · rename_i h7
            rw [if_neg (by omega), if_neg (by omega)]
            exact mono (t7 _ _ hr _ _ hc) fun y hy => (t4 _ _ y hy).2
          · rename_i h7
            split at hc
            · rename_i h8
              obtain ⟨u, hu, ho⟩ := hot _ c hc
              rw [if_pos (by omega), if_pos (by omega), hu]
              exact mono ho fun y hy => (fpb y (hF _ y hy)).1
            · rename_i h8
              rw [if_neg (by omega), if_neg (by omega)]
              exact mono (t7 _ _ hr _ _ hc) fun y hy => (t4 _ _ y hy).2
        · rw [if_neg e2] at hr2
          rw [if_neg (show ¬ (i2 = i ∧ _) from fun h => e2 h.1.symm), if_neg (show ¬ (i2 = i ∧ _) from fun h => e2 h.1.symm)]
          exact mono (t7 _ _ hr2 _ _ hc) fun y hy => (t4 _ _ y hy).2

/-- A datum put into a cell of a slice that lies in a cell of a tree. -/
theorem Repr.storeSub (h : Repr g s a w blk) {id k0 ver : Nat} {rows : List (List C)} (hO : s.ob id = .tr k0 ver rows) {i i' : Int} {j k off : Nat} {v0 : Value} (hv : RVs g s w blk v0 (.srow id ver i j k i' off)) {k' : Nat} {rs : List (List C)} (hc : cellAt rows i.toNat j = some (.ow k' rs)) (hk : k' = k) (hi : i'.toNat < rs.length) (ho : off < k)
    {v : Value} {c : C} (hrd : Rd w (Good g s.objs blk w) v c) :
    ∃ b arr e, v0 = .pointer (some ⟨b, i'.toNat * k + off, none⟩) ∧ w.heap[b]? = some (.cells arr e (0, 0)) ∧ i'.toNat * k + off + 1 ≤ arr.size ∧
      Repr g (s.setOb id (.tr k0 (ver + 1) (setAt rows i.toNat j (.ow k (setAt rs i'.toNat off c))))) a (w.setRow b (arr.toList.take (i'.toNat * k + off) ++ [v] ++ arr.toList.drop (i'.toNat * k + off + 1)).toArray) blk := by
  obtain ⟨k1, ver1, rows1, hoo, hle, hs⟩ := hv
  have hO' : s.objs id = .tr k0 ver rows := hO
  have hlive : s.objs id ≠ .none := by rw [hO']; simp
  rw [hO'] at hoo; cases hoo
  obtain ⟨b, len, cap, n, ⟨q, r, c', e1, e2, e3, e4, e5⟩, rfl⟩ := hs rfl
  obtain ⟨r', f1, f2⟩ := cellAt_some hc
  rw [e3] at f1; cases f1
  rw [e4] at f2; cases f2
  obtain ⟨arr0, e0, t1, t2, t3, vals0, Fs0, t4, t5, t6, t7⟩ := h.tree hO e1
  have hcell := t6 _ _ e3 _ _ e4
  rw [cell_of w t1, hcell] at e2
  replace e2 := Option.some.inj e2
  have hot := t7 _ _ e3 _ _ e4
  rw [e2] at hot
  subst hk
  generalize hFF : Fs0 i.toNat j = F0 at hot
  cases hot with
  | sh h => cases h
  | ow0 => simp at hi
  | @ow _ _ _ _ _ arr e _ vals h1 h2 h3 h4 h5 h6 h7 h8 h9 =>
    rw [← hFF] at h7
    have hr := getD_of (d := []) hi
    have hl : (rs.getD i'.toNat []).length = k' := h6 _ (List.mem_of_getElem? hr)
    have hle' : (i'.toNat + 1) * k' ≤ cap * k' := Nat.mul_le_mul_right _ (by omega)
    rw [Nat.add_mul, Nat.one_mul] at hle'
    have hfit : i'.toNat * k' + off + 1 ≤ arr.size := by omega
    have hset := setRow_heap w b arr (arr.toList.take (i'.toNat * k' + off) ++ [v] ++ arr.toList.drop (i'.toNat * k' + off + 1)).toArray e (0, 0) h1
    have hsz := size_splice arr [v] (i'.toNat * k' + off) 1 rfl hfit
    have hbq : b ≠ q := (t4 _ _ b h7).2
    refine ⟨b, arr, e, rfl, h1, hfit, ?_⟩
    have hrl : r.length = k0 := t3 r (List.mem_of_getElem? e3)
    have hjr : j < r.length := (List.getElem?_eq_some_iff.1 e4).1
    have hir : i.toNat < rows.length := (List.getElem?_eq_some_iff.1 e3).1
    have hgr : rows.getD i.toNat [] = r := by simp [List.getD, e3]
    refine h.turn1 id hlive (off_setRow w b arr _ e h1 hsz) (fun y hy => .inr (by rw [hy]; exact (t4 _ _ b h7).1)) (fun _ _ => ⟨rfl, rfl⟩) rfl (fun _ h => h) ?_ (fun k2 v2 rows2 hk => ?_) (fun G' O' K => ?_)
    · rw [hO']; exact ⟨rfl, by simp [setAt], by omega, fun e => by omega⟩
    · rw [hO'] at hk; cases hk
      intro e; cases e
    · rw [show blk.root id = some q from e1]
      refine .inr ⟨q, arr0, e0, rfl, by rw [setRow_other w b q _ (fun e => hbq e.symm)]; exact t1, by simpa [setAt] using t2, fun r2 hr2 => ?_, vals0, Fs0, t4, t5, fun i2 r2 hr2 j2 c2 hc2 => ?_, fun i2 r2 hr2 j2 c2 hc2 => ?_⟩
      · rcases List.mem_or_eq_of_mem_set hr2 with h5 | h5
        · exact t3 r2 h5
        · rw [h5, List.length_set, hgr]; exact hrl
      · unfold setAt at hr2
        rw [List.getElem?_set] at hr2
        by_cases e2 : i.toNat = i2
        · subst e2
          rw [if_pos rfl, if_pos hir] at hr2
          cases hr2
          rw [hgr, List.getElem?_set] at hc2
          by_cases e3' : j = j2
          · subst e3'
            exact hcell
          · rw [if_neg e3'] at hc2
            exact t6 _ _ e3 _ _ hc2
        · rw [if_neg e2] at hr2
          exact t6 _ _ hr2 _ _ hc2
      · have other : ∀ {i2 j2 : Nat} {r2 : List C} {c2 : C}, rows[i2]? = some r2 → r2[j2]? = some c2 → ¬ (i2 = i.toNat ∧ j2 = j) → OT (w.setRow b (arr.toList.take (i'.toNat * k' + off) ++ [v] ++ arr.toList.drop (i'.toNat * k' + off + 1)).toArray) G' (vals0 i2 j2) c2 (Fs0 i2 j2) := by
          intro i2 j2 r2 c2 hr2 hc2 hne
          refine (t7 _ _ hr2 _ _ hc2).mono K.good K.cell (fun _ h => h) fun y hy => setRow_other w b y _ ?_
          rintro rfl
          exact hne (t5 _ _ _ _ _ hy h7)
        unfold setAt at hr2
        rw [List.getElem?_set] at hr2
        by_cases e2 : i.toNat = i2
        · subst e2
          rw [if_pos rfl, if_pos hir] at hr2
          cases hr2
          rw [hgr, List.getElem?_set] at hc2
          by_cases e3' : j = j2
          · subst e3'
            rw [if_pos rfl, if_pos hjr] at hc2
            cases hc2
            rw [e2]
            refine .ow (fun i3 j3 => if i3 = i'.toNat ∧ j3 = off then v else vals i3 j3) hset (by simp [setAt]; omega) h3 h4 (by rw [hsz]; exact h5) (fun r3 hr3 => ?_) h7 (fun i3 r3 hr3 j3 c3 hc3 => ?_) (fun i3 r3 hr3 j3 c3 hc3 => ?_)
            · rcases List.mem_or_eq_of_mem_set hr3 with h5 | h5
              · exact h6 r3 h5
              · rw [h5, List.length_set]; exact hl
            · rw [splice_get arr [v] (i'.toNat * k' + off) 1 rfl hfit]
              rw [List.getElem?_set] at hr3
              by_cases e4' : i'.toNat = i3
              · subst e4'
                rw [if_pos rfl, if_pos hi] at hr3
                cases hr3
                rw [List.getElem?_set] at hc3
                by_cases e5' : off = j3
                · subst e5'
                  simp
                · rw [if_neg e5'] at hc3
                  rw [if_neg (show ¬ (i'.toNat = i'.toNat ∧ j3 = off) from fun h => e5' h.2.symm)]
                  have := h8 _ _ hr _ _ hc3
                  split
                  · exact this
                  · rw [if_neg (by omega)]; exact this
              · rw [if_neg e4'] at hr3
                have hj : j3 < k' := by rw [← h6 r3 (List.mem_of_getElem? hr3)]; exact (List.getElem?_eq_some_iff.1 hc3).1
                rw [if_neg (show ¬ (i3 = i'.toNat ∧ j3 = off) from fun h => e4' h.1.symm)]
                have hold := h8 _ _ hr3 _ _ hc3
                split
                · exact hold
                · rename_i hge
                  rw [if_neg ?_]; exact hold
                  intro hlt2
                  rcases Nat.lt_or_gt_of_ne e4' with h6' | h6'
                  · have : (i'.toNat + 1) * k' ≤ i3 * k' := Nat.mul_le_mul_right _ h6'
                    rw [Nat.add_mul, Nat.one_mul] at this
                    omega
                  · have : (i3 + 1) * k' ≤ i'.toNat * k' := Nat.mul_le_mul_right _ h6'
                    rw [Nat.add_mul, Nat.one_mul] at this
                    omega
            · rw [List.getElem?_set] at hr3
              by_cases e4' : i'.toNat = i3
              · subst e4'
                rw [if_pos rfl, if_pos hi] at hr3
                cases hr3
                rw [List.getElem?_set] at hc3
                by_cases e5' : off = j3
                · subst e5'
                  rw [if_pos rfl, if_pos (by omega)] at hc3
                  cases hc3
                  rw [if_pos ⟨rfl, rfl⟩]
                  exact hrd.mono K.good K.cell
                · rw [if_neg e5'] at hc3
                  rw [if_neg (fun h => e5' h.2.symm)]
                  exact (h9 _ _ hr _ _ hc3).mono K.good K.cell
              · rw [if_neg e4'] at hr3
                rw [if_neg (fun h => e4' h.1.symm)]
                exact (h9 _ _ hr3 _ _ hc3).mono K.good K.cell
          · rw [if_neg e3'] at hc2
            exact other e3 hc2 (fun h => e3' h.2.symm)
        · rw [if_neg e2] at hr2
          exact other hr2 hc2 (fun h => e2 h.1.symm)

theorem st1_ok (h : Repr g s a w blk) (hd : ∀ i, o.dst = some i → i < g.N) {t : TypeId} {p q : Operand} {xp xq : X} (ho : o.op = .store t p q) (hn : szOf P t = some 1)
    (hp : cx p = some xp) (hq : cxt P t q = some xq) (hK : st1P s (s.ev xp) (s.ev xq) fun s' => K (s'.put o.dst .und)) : OpOk P g o a w K := by
  have ep := h.ev hp; have eq := h.evt hq
  unfold st1P at hK
  split at hK
  · rename_i id off hx
    rw [hx] at ep
    obtain ⟨b, cells', hO', hb, e1⟩ := ep
    split at hK
    · rename_i cells hO
      obtain ⟨hlt, hok, hK⟩ := hK
      obtain ⟨arr, e, h1, h2, h3⟩ := h.box hO hb
      have hv := (RVs.one1 eq hok)
      obtain ⟨o1, o2⟩ := hv.one hok
      obtain ⟨o3, o4⟩ := one_cells o2
      refine store_gen h ho hn e1 (by rw [hO]; simp) hb h1 o3 (by omega) (by rw [o4]; simpa using o1) (by rw [hO]; trivial) (by rw [hO]; simp) ?_ hd hK
      intro w' G' O' KK hh
      refine ⟨b, _, e, rfl, hh, by rw [size_splice _ _ _ _ (by rw [o4]; rfl) (by omega)]; simpa using h2, fun j x hj => ?_⟩
      rw [splice_get _ _ _ _ (by rw [o4]; rfl) (by omega), o4]
      rw [List.getElem?_set] at hj
      by_cases e1 : off = j
      · subst e1
        rw [if_pos rfl, if_pos hlt] at hj
        cases hj
        exact ⟨_, by simp, hv.keep KK⟩
      · rw [if_neg e1] at hj
        obtain ⟨u, hu, hr⟩ := h3 j x hj
        refine ⟨u, ?_, hr.keep KK⟩
        split
        · exact hu
        · rw [if_neg (by omega)]; exact hu
    · exact hK.elim
  · rename_i id k i off hx
    rw [hx] at ep
    obtain ⟨b, rows', hO', hb, e1⟩ := ep
    split at hK
    · rename_i k' rows hO
      split at hK
      case h_2 => exact hK.elim
      rename_i c hc
      obtain ⟨rfl, hlt, hoff, hK⟩ := hK
      obtain ⟨arr, e, h1, h2, h3, h4⟩ := h.row hO hb
      have hv := toC_ok eq hc
      obtain ⟨o3, o4⟩ := one_cells hv.cells
      have hr := getD_of (d := []) hlt
      have hl : (rows.getD i.toNat []).length = k' := h3 _ (List.mem_of_getElem? hr)
      have hle : (i.toNat + 1) * k' ≤ rows.length * k' := Nat.mul_le_mul_right _ hlt
      rw [Nat.add_mul, Nat.one_mul] at hle
      have hfit : i.toNat * k' + off + 1 ≤ arr.size := by omega
      refine store_gen h ho hn e1 (by rw [hO]; simp) hb h1 o3 hfit (by rw [o4]; simpa using hv.one) (by rw [hO]; exact ⟨_, rfl, by simp⟩) (by rw [hO]; simp) ?_ hd hK
      intro w' G' O' KK hh
      refine .inr ⟨b, _, e, rfl, hh, by rw [size_splice _ _ _ _ (by rw [o4]; rfl) hfit]; simpa using h2, ?_, fun i2 r j c2 hr2 hc2 => ?_⟩
      · intro r hr2
        rcases List.mem_or_eq_of_mem_set hr2 with h5 | h5
        · exact h3 r h5
        · rw [h5, List.length_set]; exact hl
      · rw [splice_get _ _ _ _ (by rw [o4]; rfl) hfit, o4]
        rw [List.getElem?_set] at hr2
        by_cases e2 : i.toNat = i2
        · subst e2
          rw [if_pos rfl, if_pos hlt] at hr2
          cases hr2
          rw [List.getElem?_set] at hc2
          by_cases e3 : off = j
          · subst e3
            rw [if_pos rfl, if_pos (by omega)] at hc2
            cases hc2
            exact ⟨_, by simp, hv.mono KK.good KK.cell⟩
          · rw [if_neg e3] at hc2
            obtain ⟨u, hu, hru⟩ := h4 _ _ j c2 hr hc2
            refine ⟨u, ?_, hru.mono KK.good KK.cell⟩
            split
            · exact hu
            · rw [if_neg (by omega)]; exact hu
        · rw [if_neg e2] at hr2
          obtain ⟨u, hu, hru⟩ := h4 i2 r j c2 hr2 hc2
          have hj : j < k' := by rw [← h3 r (List.mem_of_getElem? hr2)]; exact (List.getElem?_eq_some_iff.1 hc2).1
          refine ⟨u, ?_, hru.mono KK.good KK.cell⟩
          split
          · exact hu
          · rename_i hge
            rw [if_neg ?_]; exact hu
            intro hlt2
            rcases Nat.lt_or_gt_of_ne e2 with h6 | h6
            · have : (i.toNat + 1) * k' ≤ i2 * k' := Nat.mul_le_mul_right _ h6
              rw [Nat.add_mul, Nat.one_mul] at this
              omega
            · have : (i2 + 1) * k' ≤ i.toNat * k' := Nat.mul_le_mul_right _ h6
              rw [Nat.add_mul, Nat.one_mul] at this
              omega
    · rename_i k' ver rows hO
      split at hK
      case h_2 => exact hK.elim
      rename_i c ids hpk
      obtain ⟨rfl, hlt, hoff, hnd, hid, hK⟩ := hK
      obtain ⟨arr, e, h1, h2, h3, h4⟩ := h.tree hO hb
      have hxc : (s.ev xq).cellOk = true := by
        revert hpk
        cases s.ev xq <;> simp [pk1, AV.cellOk]
      have hv := RVs.one1 eq hxc
      obtain ⟨o1, o2⟩ := hv.one hxc
      obtain ⟨o3, o4⟩ := one_cells o2
      obtain ⟨F, p1, p2⟩ := pk1_ok h hv hpk
      obtain ⟨L', hre⟩ := h.storeTree (off := off) (n := 1) (vs := [a.eval q]) (cs := [c]) (Fs := fun j => match j with | 0 => F | _ => noF) hO hb h1 hlt (by omega) rfl rfl hid (fun j c' hj => by
        cases j with
        | zero => simp at hj; subst hj; exact ⟨_, rfl, p1⟩
        | succ j => simp at hj) (fun j y hy => by
        cases j with
        | zero => exact p2 y hy
        | succ j => exact hy.elim) (fun j j' y hy hy' => by
        cases j with
        | zero => cases j' with
          | zero => rfl
          | succ j' => exact hy'.elim
        | succ j => exact hy.elim)
      have hr := getD_of (d := []) hlt
      have hl : (rows.getD i.toNat []).length = k' := h3 _ (List.mem_of_getElem? hr)
      have hle : (i.toNat + 1) * k' ≤ rows.length * k' := Nat.mul_le_mul_right _ hlt
      rw [Nat.add_mul, Nat.one_mul] at hle
      have hrun := run_storeVar' (P := P) hn h1 (v := a.eval q) (off := i.toNat * k' + off) o3 (by omega) (by rw [o4]; simpa using o1)
      rw [o4] at hrun
      refine ⟨.skip, _, skip_run ho (e1 ▸ hrun), _, L', hK, ?_⟩
      rw [← set_eq_splice (rows.getD i.toNat []) off c (by omega)] at hre
      exact hre.put (v := undef) (x := .und) hd (show undef = undef from rfl)
    · exact hK.elim
  · rename_i id ver i j k i' off hx
    rw [hx] at ep
    split at hK
    · rename_i k0 ver' rows hO
      obtain ⟨rfl, hK⟩ := hK
      split at hK
      · rename_i k' rs hc
        split at hK
        · rename_i c hcc
          obtain ⟨hk, hi, hoff, hK⟩ := hK
          have hv := toC_ok eq hcc
          obtain ⟨o3, o4⟩ := one_cells hv.cells
          obtain ⟨b, arr, e, e1, h1, hfit, hre⟩ := h.storeSub hO ep hc hk hi hoff hv
          have hrun := run_storeVar' (P := P) hn h1 (v := a.eval q) o3 hfit (by rw [o4]; simpa using hv.one)
          rw [o4] at hrun
          refine ⟨.skip, _, skip_run ho (e1 ▸ hrun), _, blk, hK, ?_⟩
          exact hre.put (v := undef) (x := .und) hd (show undef = undef from rfl)
        · exact hK.elim
      · exact hK.elim
    · exact hK.elim
  · exact hK.elim

theorem stn_ok (h : Repr g s a w blk) (hd : ∀ i, o.dst = some i → i < g.N) {t : TypeId} {n : Nat} {p q : Operand} {xp xq : X} (ho : o.op = .store t p q) (hn : szOf P t = some n)
    (hp : cx p = some xp) (hq : cxt P t q = some xq) (hK : stnP n s (s.ev xp) (s.ev xq) fun s' => K (s'.put o.dst .und)) : OpOk P g o a w K := by
  have ep := h.ev hp; have eq := h.evt hq
  unfold stnP at hK
  split at hK
  · rename_i l hx
    rw [hx] at eq
    obtain ⟨hln, hK⟩ := hK
    obtain ⟨hsz, hcs⟩ := agg_cells eq
    have hsz' : (a.eval q).cells.size = n := by omega
    have hlen : (a.eval q).cells.toList.length = n := by simpa using hsz'
    split at hK
    · rename_i id off hx
      rw [hx] at ep
      obtain ⟨b, cells', hO', hb, e1⟩ := ep
      split at hK
      · rename_i cells hO
        obtain ⟨hle, hok, hK⟩ := hK
        obtain ⟨arr, e, h1, h2, h3⟩ := h.box hO hb
        have hfit : off + n ≤ arr.size := by omega
        refine store_gen h ho hn e1 (by rw [hO]; simp) hb h1 hsz' hfit (all_one hok (by omega) hcs) (by rw [hO]; trivial) (by rw [hO]; simp) ?_ hd hK
        intro w' G' O' KK hh
        refine ⟨b, _, e, rfl, hh, by rw [size_splice _ _ _ _ hlen hfit]; simp; omega, fun j x hj => ?_⟩
        rw [splice_get _ _ _ _ hlen hfit]
        rw [splice_getL _ _ _ _ hln hle] at hj
        split at hj
        · rename_i hlt
          obtain ⟨u, hu, hr⟩ := h3 j x hj
          exact ⟨u, by rw [if_pos hlt]; exact hu, hr.keep KK⟩
        · rename_i hnlt
          rw [if_neg hnlt]
          split at hj
          · rename_i hlt
            obtain ⟨u, hu, hr⟩ := hcs _ x hj
            exact ⟨u, by rw [if_pos hlt]; exact hu, hr.keep KK⟩
          · rename_i hnlt2
            obtain ⟨u, hu, hr⟩ := h3 j x hj
            exact ⟨u, by rw [if_neg hnlt2]; exact hu, hr.keep KK⟩
      · exact hK.elim
    · rename_i id k i off hx
      rw [hx] at ep
      obtain ⟨b, rows', hO', hb, e1⟩ := ep
      split at hK
      · rename_i k' rows hO
        split at hK
        case h_2 => exact hK.elim
        rename_i cs hc
        obtain ⟨rfl, hlt, hoff, hK⟩ := hK
        obtain ⟨arr, e, h1, h2, h3, h4⟩ := h.row hO hb
        obtain ⟨hcl, hcg⟩ := toCs_get hc
        have hcr : ∀ (j : Nat) (c : C), cs[j]? = some c → ∃ u, (a.eval q).cells.toList[j]? = some u ∧ Rd w (Good g s.objs blk w) u c := by
          intro j c hj
          obtain ⟨x, hx, hxc⟩ := hcg j c hj
          obtain ⟨u, hu, hr⟩ := hcs j x hx
          exact ⟨u, hu, toC_ok1 hr hxc⟩
        have hr := getD_of (d := []) hlt
        have hl : (rows.getD i.toNat []).length = k' := h3 _ (List.mem_of_getElem? hr)
        have hle : (i.toNat + 1) * k' ≤ rows.length * k' := Nat.mul_le_mul_right _ hlt
        rw [Nat.add_mul, Nat.one_mul] at hle
        have hfit : i.toNat * k' + off + n ≤ arr.size := by omega
        refine store_gen h ho hn e1 (by rw [hO]; simp) hb h1 hsz' hfit (all_one_C (by omega) hcr) (by rw [hO]; exact ⟨_, rfl, by simp⟩) (by rw [hO]; simp) ?_ hd hK
        intro w' G' O' KK hh
        refine .inr ⟨b, _, e, rfl, hh, by rw [size_splice _ _ _ _ hlen hfit]; simpa using h2, ?_, fun i2 r j c2 hr2 hc2 => ?_⟩
        · intro r hr2
          rcases List.mem_or_eq_of_mem_set hr2 with h5 | h5
          · exact h3 r h5
          · rw [h5]; simp only [List.length_append, List.length_take, List.length_drop, hl, hcl]; omega
        · rw [splice_get _ _ _ _ hlen hfit]
          rw [List.getElem?_set] at hr2
          by_cases e2 : i.toNat = i2
          · subst e2
            rw [if_pos rfl, if_pos hlt] at hr2
            cases hr2
            rw [splice_getL _ _ _ _ (by omega) (by omega)] at hc2
            split at hc2
            · rename_i h7
              obtain ⟨u, hu, hru⟩ := h4 _ _ j c2 hr hc2
              exact ⟨u, by rw [if_pos (by omega)]; exact hu, hru.mono KK.good KK.cell⟩
            · rename_i h7
              split at hc2
              · rename_i h8
                obtain ⟨u, hu, hru⟩ := hcr _ c2 hc2
                refine ⟨u, ?_, hru.mono KK.good KK.cell⟩
                rw [if_neg (by omega), if_pos (by omega), ← hu]
                congr 1; omega
              · rename_i h8
                obtain ⟨u, hu, hru⟩ := h4 _ _ j c2 hr hc2
                exact ⟨u, by rw [if_neg (by omega), if_neg (by omega)]; exact hu, hru.mono KK.good KK.cell⟩
          · rw [if_neg e2] at hr2
            obtain ⟨u, hu, hru⟩ := h4 i2 r j c2 hr2 hc2
            have hj : j < k' := by rw [← h3 r (List.mem_of_getElem? hr2)]; exact (List.getElem?_eq_some_iff.1 hc2).1
            refine ⟨u, ?_, hru.mono KK.good KK.cell⟩
            split
            · exact hu
            · rename_i hge
              rw [if_neg ?_]; exact hu
              intro hlt2
              rcases Nat.lt_or_gt_of_ne e2 with h6 | h6
              · have : (i.toNat + 1) * k' ≤ i2 * k' := Nat.mul_le_mul_right _ h6
                rw [Nat.add_mul, Nat.one_mul] at this
                omega
              · have : (i2 + 1) * k' ≤ i.toNat * k' := Nat.mul_le_mul_right _ h6
                rw [Nat.add_mul, Nat.one_mul] at this
                omega
      · rename_i k' ver rows hO
        split at hK
        case h_2 => exact hK.elim
        rename_i cs ids hpk
        obtain ⟨rfl, hlt, hoff, hnd, hid, hK⟩ := hK
        obtain ⟨arr, e, h1, h2, h3, h4⟩ := h.tree hO hb
        obtain ⟨Fs, p1, p2, p3, p4⟩ := pkl_ok h hpk hcs hnd
        obtain ⟨L', hre⟩ := h.storeTree (off := off) (n := n) (vs := (a.eval q).cells.toList) (cs := cs) (Fs := Fs) hO hb h1 hlt (by omega) hlen (by omega) hid p2 p3 p4
        have hr := getD_of (d := []) hlt
        have hl : (rows.getD i.toNat []).length = k' := h3 _ (List.mem_of_getElem? hr)
        have hle : (i.toNat + 1) * k' ≤ rows.length * k' := Nat.mul_le_mul_right _ hlt
        rw [Nat.add_mul, Nat.one_mul] at hle
        have hone : ∀ u ∈ (a.eval q).cells.toList, u.oneCell' = true := by
          intro u hu
          obtain ⟨j, hj⟩ := List.getElem?_of_mem hu
          have hjl : j < cs.length := by rw [p1, hln, ← hlen]; exact (List.getElem?_eq_some_iff.1 hj).1
          obtain ⟨u', hu', hot⟩ := p2 j _ (List.getElem?_eq_getElem hjl)
          rw [hj] at hu'; cases hu'
          exact hot.one
        have hrun := run_storeVar' (P := P) hn h1 (v := a.eval q) (off := i.toNat * k' + off) hsz' (by omega) hone
        refine ⟨.skip, _, skip_run ho (e1 ▸ hrun), _, L', hK, ?_⟩
        exact hre.put (v := undef) (x := .und) hd (show undef = undef from rfl)
      · exact hK.elim
    · exact hK.elim
  · exact hK.elim

end
end Go.Proofs.Ytenfgllkjgfjpaa
