/- The abstract machine, part 8: stores of structs; new boxes, rows and literals. -/
import Derived.Test.YtenfgllkjgfjpaaCore7
set_option linter.all false
namespace Go.Proofs.Ytenfgllkjgfjpaa
open Go.RowKit

section
variable {P : Program} {g : Ghost} {o : Oper} {s : St} {a : Act} {w : World} {blk : Nat → Option Nat} {K : St → Prop}

theorem toCs_get : ∀ {l : List AV} {cs : List C}, AV.toCs l = some cs → cs.length = l.length ∧ ∀ (j : Nat) (c : C), cs[j]? = some c → ∃ x, l[j]? = some x ∧ x.toC = some c
  | [], cs, h => by cases h; exact ⟨rfl, fun j c hj => by simp at hj⟩
  | x :: l, cs, h => by
    simp only [AV.toCs] at h
    split at h
    · rename_i c1 cs1 h1 h2
      cases h
      obtain ⟨hl, hg⟩ := toCs_get h2
      refine ⟨by simp [hl], fun j c hj => ?_⟩
      cases j with
      | zero => simp at hj; subst hj; exact ⟨x, rfl, h1⟩
      | succ j => exact hg j c (by simpa using hj)
    · cases h

theorem toC_ok1 {G : Nat → Prop} {O : Nat → Obj} {v : Value} {x : AV} {c : C} (h : RV1 w G O blk v x) (hx : x.toC = some c) : Rd w G v c := by
  cases x <;> simp [AV.toC] at hx
  · subst hx; exact h
  · subst hx; obtain ⟨_, _, _, hr⟩ := h; exact hr

theorem agg_cells {l : List AV} {v : Value} (h : RVs g s w blk v (.agg l)) : v.cells.size = l.length ∧
    ∀ (j : Nat) (x : AV), l[j]? = some x → ∃ u, v.cells.toList[j]? = some u ∧ RV1 w (Good g s.objs blk w) s.objs blk u x := by
  obtain ⟨arr, rfl, h1, h2⟩ := h
  exact ⟨h1, fun j x hx => let ⟨u, hu, hr⟩ := h2 j x hx; ⟨u, by simpa [Value.cells] using hu, hr⟩⟩

theorem cellsOf_ok {x : AV} {v : Value} (h : RVs g s w blk v x) (hok : x.cellsOf.all AV.cellOk = true) : v.cells.size = x.cellsOf.length ∧
    ∀ (j : Nat) (y : AV), x.cellsOf[j]? = some y → ∃ u, v.cells.toList[j]? = some u ∧ RV1 w (Good g s.objs blk w) s.objs blk u y := by
  have other : x.cellsOf = [x] → v.cells.size = x.cellsOf.length ∧ ∀ (j : Nat) (y : AV), x.cellsOf[j]? = some y → ∃ u, v.cells.toList[j]? = some u ∧ RV1 w (Good g s.objs blk w) s.objs blk u y := by
    intro e
    rw [e] at hok ⊢
    have hx : x.cellOk = true := by simpa using hok
    have h1 := h.one1 hx
    obtain ⟨_, h2⟩ := h1.one hx
    refine ⟨by rw [h2]; rfl, fun j y hj => ?_⟩
    cases j with
    | zero => simp at hj; subst hj; exact ⟨v, by rw [h2]; rfl, h1⟩
    | succ j => simp at hj
  cases x with
  | agg l => exact agg_cells h
  | _ => exact other rfl

theorem all_one {l : List AV} (hok : l.all AV.cellOk = true) {us : List Value} (hl : us.length = l.length) {G : Nat → Prop} {O : Nat → Obj}
    (h : ∀ (j : Nat) (x : AV), l[j]? = some x → ∃ u, us[j]? = some u ∧ RV1 w G O blk u x) : ∀ u ∈ us, u.oneCell' = true := by
  intro u hu
  obtain ⟨j, hj⟩ := List.getElem?_of_mem hu
  have hlt : j < l.length := by rw [← hl]; exact (List.getElem?_eq_some_iff.1 hj).1
  obtain ⟨u', hu', hr⟩ := h j _ (List.getElem?_eq_getElem hlt)
  rw [hj] at hu'; cases hu'
  exact (hr.one (List.all_eq_true.1 hok _ (List.getElem_mem hlt))).1

theorem all_one_C {cs : List C} {us : List Value} (hl : us.length = cs.length) {G : Nat → Prop}
    (h : ∀ (j : Nat) (c : C), cs[j]? = some c → ∃ u, us[j]? = some u ∧ Rd w G u c) : ∀ u ∈ us, u.oneCell' = true := by
  intro u hu
  obtain ⟨j, hj⟩ := List.getElem?_of_mem hu
  have hlt : j < cs.length := by rw [← hl]; exact (List.getElem?_eq_some_iff.1 hj).1
  obtain ⟨u', hu', hr⟩ := h j _ (List.getElem?_eq_getElem hlt)
  rw [hj] at hu'; cases hu'
  exact hr.one

theorem stn_ok (h : Repr g s a w blk) (hd : ∀ i, o.dst = some i → i < g.N) {t : TypeId} {n : Nat} {p q : Operand} {xp xq : X} (ho : o.op = .store t p q) (hn : szOf P t = some n)
    (hp : cx p = some xp) (hq : cx q = some xq) (hK : stnP n s (s.ev xp) (s.ev xq) fun s' => K (s'.put o.dst .und)) : OpOk P g o a w K := by
  have ep := h.ev hp; have eq := h.ev hq
  unfold stnP at hK
  split at hK
  · rename_i l hx
    rw [hx] at eq
    obtain ⟨hln, hK⟩ := hK
    obtain ⟨hsz, hcs⟩ := agg_cells eq
    have hsz' : (a.eval q).cells.size = n := by omega
    have hlen : (a.eval q).cells.toList.length = n := by simpa using hsz'
    split at hK
    · rename_i id off hx
      rw [hx] at ep
      obtain ⟨b, cells', hO', hb, e1⟩ := ep
      split at hK
      · rename_i cells hO
        obtain ⟨hle, hok, hK⟩ := hK
        obtain ⟨arr, e, h1, h2, h3⟩ := h.box hO hb
        have hfit : off + n ≤ arr.size := by omega
        refine store_gen h ho hn e1 (by rw [hO]; simp) hb h1 hsz' hfit (all_one hok (by omega) hcs) (by rw [hO]; trivial) ?_ hd hK
        intro w' G' O' KK hh
        refine ⟨b, _, e, rfl, hh, by rw [size_splice _ _ _ _ hlen hfit]; simp; omega, fun j x hj => ?_⟩
        rw [splice_get _ _ _ _ hlen hfit]
        rw [splice_getL _ _ _ _ hln hle] at hj
        split at hj
        · rename_i hlt
          obtain ⟨u, hu, hr⟩ := h3 j x hj
          exact ⟨u, by rw [if_pos hlt]; exact hu, hr.keep KK⟩
        · rename_i hnlt
          rw [if_neg hnlt]
          split at hj
          · rename_i hlt
            obtain ⟨u, hu, hr⟩ := hcs _ x hj
            exact ⟨u, by rw [if_pos hlt]; exact hu, hr.keep KK⟩
          · rename_i hnlt2
            obtain ⟨u, hu, hr⟩ := h3 j x hj
            exact ⟨u, by rw [if_neg hnlt2]; exact hu, hr.keep KK⟩
      · exact hK.elim
    · rename_i id k i off hx
      rw [hx] at ep
      obtain ⟨b, rows', hO', hb, e1⟩ := ep
      split at hK
      · rename_i k' rows cs hO hc
        obtain ⟨rfl, hlt, hoff, hK⟩ := hK
        obtain ⟨arr, e, h1, h2, h3, h4⟩ := h.row hO hb
        obtain ⟨hcl, hcg⟩ := toCs_get hc
        have hcr : ∀ (j : Nat) (c : C), cs[j]? = some c → ∃ u, (a.eval q).cells.toList[j]? = some u ∧ Rd w (Good g s.objs blk w) u c := by
          intro j c hj
          obtain ⟨x, hx, hxc⟩ := hcg j c hj
          obtain ⟨u, hu, hr⟩ := hcs j x hx
          exact ⟨u, hu, toC_ok1 hr hxc⟩
        have hr := getD_of (d := []) hlt
        have hl : (rows.getD i.toNat []).length = k' := h3 _ (List.mem_of_getElem? hr)
        have hle : (i.toNat + 1) * k' ≤ rows.length * k' := Nat.mul_le_mul_right _ hlt
        rw [Nat.add_mul, Nat.one_mul] at hle
        have hfit : i.toNat * k' + off + n ≤ arr.size := by omega
        refine store_gen h ho hn e1 (by rw [hO]; simp) hb h1 hsz' hfit (all_one_C (by omega) hcr) (by rw [hO]; exact ⟨rfl, by simp⟩) ?_ hd hK
        intro w' G' O' KK hh
        refine .inr ⟨b, _, e, rfl, hh, by rw [size_splice _ _ _ _ hlen hfit]; simpa using h2, ?_, fun i2 r j c2 hr2 hc2 => ?_⟩
        · intro r hr2
          rcases List.mem_or_eq_of_mem_set hr2 with h5 | h5
          · exact h3 r h5
          · rw [h5]; simp only [List.length_append, List.length_take, List.length_drop, hl, hcl]; omega
        · rw [splice_get _ _ _ _ hlen hfit]
          rw [List.getElem?_set] at hr2
          by_cases e2 : i.toNat = i2
          · subst e2
            rw [if_pos rfl, if_pos hlt] at hr2
            cases hr2
            rw [splice_getL _ _ _ _ (by omega) (by omega)] at hc2
            split at hc2
            · rename_i h7
              obtain ⟨u, hu, hru⟩ := h4 _ _ j c2 hr hc2
              exact ⟨u, by rw [if_pos (by omega)]; exact hu, hru.mono KK.good KK.cell⟩
            · rename_i h7
              split at hc2
              · rename_i h8
                obtain ⟨u, hu, hru⟩ := hcr _ c2 hc2
                refine ⟨u, ?_, hru.mono KK.good KK.cell⟩
                rw [if_neg (by omega), if_pos (by omega), ← hu]
                congr 1; omega
              · rename_i h8
                obtain ⟨u, hu, hru⟩ := h4 _ _ j c2 hr hc2
                exact ⟨u, by rw [if_neg (by omega), if_neg (by omega)]; exact hu, hru.mono KK.good KK.cell⟩
          · rw [if_neg e2] at hr2
            obtain ⟨u, hu, hru⟩ := h4 i2 r j c2 hr2 hc2
            have hj : j < k' := by rw [← h3 r (List.mem_of_getElem? hr2)]; exact (List.getElem?_eq_some_iff.1 hc2).1
            refine ⟨u, ?_, hru.mono KK.good KK.cell⟩
            split
            · exact hu
            · rename_i hge
              rw [if_neg ?_]; exact hu
              intro hlt2
              rcases Nat.lt_or_gt_of_ne e2 with h6 | h6
              · have : (i.toNat + 1) * k' ≤ i2 * k' := Nat.mul_le_mul_right _ h6
                rw [Nat.add_mul, Nat.one_mul] at this
                omega
              · have : (i2 + 1) * k' ≤ i.toNat * k' := Nat.mul_le_mul_right _ h6
                rw [Nat.add_mul, Nat.one_mul] at this
                omega
      · exact hK.elim
    · exact hK.elim
  · exact hK.elim

theorem newRow_run (e : TypeId) (cells : Array Value) (w : World) : (newRow e cells).run P w = .ok ⟨w.heap.size, 0, none⟩ (w.alloc (.cells cells e)) := by
  simp [newRow]

/-- A new object, in a new block. -/
theorem new_gen (h : Repr g s a w blk) (hd : ∀ i, o.dst = some i → i < g.N) {o' : Obj} {V : Nat → AV} {v : Value} {arr : Array Value} {e : TypeId} {w1 : World}
    (hr : (execOp a.eval o).run P w1 = .ok (.value v) (w.alloc (.cells arr e)))
    (ok : ∀ w' G' O' blk', Keeps w w' (Good g s.objs blk w) G' s.objs O' blk blk' → w'.heap[w.heap.size]? = some (.cells arr e (0, 0)) → ObjOk w' G' O' blk' (some w.heap.size) o')
    (hv : ∀ (d : Nat) G' (O' : Nat → Obj) (blk' : Nat → Option Nat), O' d = o' → blk' d = some w.heap.size → (w.alloc (.cells arr e)).heap[w.heap.size]? = some (.cells arr e (0, 0)) → RV (w.alloc (.cells arr e)) G' O' blk' v (V d))
    (hK : newP s o.dst o' V K) : OpOk P g o a w1 K := by
  unfold newP at hK
  split at hK
  · rename_i d hdst
    obtain ⟨h0, hK⟩ := hK
    have := h.alloc (d := d) (ob_none h0) ok
    refine ⟨_, _, hr, _, (fun i => if i = d then some w.heap.size else blk i), hK, ?_⟩
    have hput := this.put (d := some d) (v := v) (x := V d) (by rw [← hdst]; exact hd) (hv d _ _ _ (by simp [upd]) (by simp) (heap_alloc_new w _))
    rw [hdst]
    exact hput
  · exact hK.elim

theorem box_ok (h : Repr g s a w blk) (hd : ∀ i, o.dst = some i → i < g.N) {t : TypeId} {n : Nat} {p : Operand} {xp : X} (ho : o.op = .box t p)
    (hp : cx p = some xp) (hK : boxP n s o.dst (s.ev xp) K) : OpOk P g o a w K := by
  have ep := h.ev hp
  obtain ⟨_, hok, hK⟩ := hK
  obtain ⟨h1, h2⟩ := cellsOf_ok ep hok
  refine new_gen (v := .pointer (some ⟨w.heap.size, 0, none⟩)) (arr := (a.eval p).cells) (e := t) h hd ?_ ?_ ?_ hK
  · simp [execOp, ho, Instr.box, newVar, newRow_run]
  · intro w' G' O' blk' KK hh
    exact ⟨_, _, _, rfl, hh, h1, fun j x hx => let ⟨u, hu, hr⟩ := h2 j x hx; ⟨u, by simpa using hu, hr.keep KK⟩⟩
  · intro d G' O' blk' hO hb _
    exact ⟨_, _, hO, hb, rfl⟩

theorem constAVs_get : ∀ {l : List Value} {zs : List AV}, constAVs l = some zs → zs.length = l.length ∧ ∀ (j : Nat) (x : AV), zs[j]? = some x → ∃ v, l[j]? = some v ∧ constAV v = some x
  | [], cs, h => by cases h; exact ⟨rfl, fun j c hj => by simp at hj⟩
  | x :: l, cs, h => by
    simp only [constAVs] at h
    split at h
    · rename_i c1 cs1 h1 h2
      cases h
      obtain ⟨hl, hg⟩ := constAVs_get h2
      refine ⟨by simp [hl], fun j c hj => ?_⟩
      cases j with
      | zero => simp at hj; subst hj; exact ⟨x, rfl, h1⟩
      | succ j => exact hg j c (by simpa using hj)
    · cases h

theorem constAV_ok1 {G : Nat → Prop} {O : Nat → Obj} {v : Value} {x : AV} (h : constAV v = some x) : RV1 w G O blk v x := by
  unfold constAV at h
  split at h
  · split at h
    · cases h; exact Rd.i ‹_›
    · cases h
  · split at h
    · rename_i n hn
      cases h
      show Rd _ _ _ _
      have : (Value.int .u8 n) = .int .u8 (n.toNat : Int) := by congr; omega
      rw [this]
      exact .u (by omega)
    · cases h
  · cases h; exact Rd.b
  · split at h
    · cases h; exact Rd.s ‹_›
    · cases h
  · cases h; exact rfl
  · cases h

theorem alloc_ok (h : Repr g s a w blk) (hd : ∀ i, o.dst = some i → i < g.N) {t : TypeId} {i : TypeInfo} {z : Value} {zs : List AV} (ho : o.op = .alloc t) (hi : P.info? t = some i) (hz : i.zero = some z)
    (hzs : constAVs z.cells.toList = some zs) (hK : newP s o.dst (.box zs) (fun d => .box d 0) K) : OpOk P g o a w K := by
  obtain ⟨h1, h2⟩ := constAVs_get hzs
  refine new_gen (v := .pointer (some ⟨w.heap.size, 0, none⟩)) (arr := z.cells) (e := t) h hd ?_ ?_ ?_ hK
  · simp [execOp, ho, Instr.alloc, zeroValue, typeInfo, hi, hz, newVar, newRow_run]
  · intro w' G' O' blk' KK hh
    exact ⟨_, _, _, rfl, hh, by simpa using h1.symm, fun j x hx => let ⟨u, hu, hr⟩ := h2 j x hx; ⟨u, by simpa using hu, constAV_ok1 hr⟩⟩
  · intro d G' O' blk' hO hb _
    exact ⟨_, _, hO, hb, rfl⟩

theorem zeroOk_ok {G : Nat → Prop} {v : Value} {c : C} (h : zeroOk v c = true) : Rd w G v c := by
  unfold zeroOk at h
  split at h
  · simp at h; obtain ⟨rfl, rfl⟩ := h; exact .i ⟨by omega, by omega⟩
  · simp at h; obtain ⟨rfl, rfl⟩ := h; exact Rd.u (n := 0) (by decide)
  · simp at h; subst h; exact .b
  · simp at h; obtain ⟨rfl, rfl⟩ := h; exact .s (by simp)
  · simp at h; subst h
    exact .sl (fun _ _ => default) rfl (Nat.le_refl _) (by unfold maxLen; omega) (by simp) (by simp) (by simp) (by simp)
  · cases h

theorem zeroOks_get : ∀ {l : List Value} {cs : List C}, zeroOks l cs = true → cs.length = l.length ∧ ∀ (j : Nat) (c : C), cs[j]? = some c → ∃ v, l[j]? = some v ∧ zeroOk v c = true
  | [], [], h => ⟨rfl, fun j c hj => by simp at hj⟩
  | x :: l, c :: cs, h => by
    simp only [zeroOks, Bool.and_eq_true] at h
    obtain ⟨hl, hg⟩ := zeroOks_get h.2
    refine ⟨by simp [hl], fun j c hj => ?_⟩
    cases j with
    | zero => simp at hj; subst hj; exact ⟨x, rfl, h.1⟩
    | succ j => exact hg j c (by simpa using hj)

theorem zeroC_ok {v : Value} {k : Nat} {c : C} (h : zeroC v k = some c) : zeroOk v c = true := by
  unfold zeroC at h
  split at h
  · split at h
    · rename_i e; cases h; simp [zeroOk, e]
    · cases h
  · split at h
    · rename_i e; cases h; simp [zeroOk, e]
    · cases h
  · split at h
    · cases h
    · rename_i b e; cases h; simp at e; simp [zeroOk, e]
  · split at h
    · rename_i e; cases h; simp [zeroOk, e]
    · cases h
  · cases h; rfl
  · cases h

theorem zeroCs_ok : ∀ {l : List Value} {ks : List Nat} {cs : List C}, zeroCs l ks = some cs → zeroOks l cs = true
  | [], [], cs, h => by cases h; rfl
  | v :: l, k :: ks, cs, h => by
    simp only [zeroCs] at h
    split at h
    · rename_i c1 cs1 h1 h2
      cases h
      simp [zeroOks, zeroC_ok h1, zeroCs_ok h2]
    · cases h

theorem flat_get {α : Type} {k n : Nat} {z : List α} (hz : z.length = k) {i j : Nat} {c : α} (hi : i < n) (hj : z[j]? = some c) : (List.replicate n z).flatten[i * k + j]? = some c := by
  induction n generalizing i with
  | zero => omega
  | succ n ih =>
    rw [List.replicate_succ, List.flatten_cons]
    have hjk : j < k := by rw [← hz]; exact (List.getElem?_eq_some_iff.1 hj).1
    cases i with
    | zero => rw [Nat.zero_mul, Nat.zero_add, List.getElem?_append_left (by omega)]; exact hj
    | succ i =>
      rw [List.getElem?_append_right (by rw [hz, Nat.add_mul]; omega), hz, Nat.add_mul, Nat.one_mul]
      rw [show i * k + k + j - k = i * k + j from by omega]
      exact ih (by omega)

theorem alloca_ok (h : Repr g s a w blk) (hd : ∀ i, o.dst = some i → i < g.N) {t : TypeId} {i : TypeInfo} {z : Value} {k n : Nat} {cs : List C} (ho : o.op = .alloc t) (hi : P.info? t = some i) (hz : i.zero = some z)
    (hzs : zeroOks z.cells.toList (List.replicate n cs).flatten = true) (hk : cs.length = k) (hK : newP s o.dst (.row k (List.replicate n cs)) (fun d => .row d k 0 0) K) : OpOk P g o a w K := by
  obtain ⟨h1, h2⟩ := zeroOks_get hzs
  refine new_gen (v := .pointer (some ⟨w.heap.size, 0, none⟩)) (arr := z.cells) (e := t) h hd ?_ ?_ ?_ hK
  · simp [execOp, ho, Instr.alloc, zeroValue, typeInfo, hi, hz, newVar, newRow_run]
  · intro w' G' O' blk' KK hh
    refine .inr ⟨_, _, _, rfl, hh, ?_, fun r hr => by rw [(List.mem_replicate.1 hr).2]; exact hk, fun i2 r j c hr hc => ?_⟩
    · have : (List.replicate n cs).flatten.length = n * k := by simp [hk]
      rw [List.length_replicate]
      rw [this, Array.length_toList] at h1
      omega
    · have hi2 : i2 < n := by have := (List.getElem?_eq_some_iff.1 hr).1; simpa using this
      rw [List.getElem?_replicate, if_pos hi2] at hr
      cases hr
      obtain ⟨u, hu, hr⟩ := h2 _ c (flat_get hk hi2 hc)
      exact ⟨u, by simpa using hu, zeroOk_ok hr⟩
  · intro d G' O' blk' hO hb _
    exact ⟨_, _, hO, hb, by simp⟩

end
end Go.Proofs.Ytenfgllkjgfjpaa
