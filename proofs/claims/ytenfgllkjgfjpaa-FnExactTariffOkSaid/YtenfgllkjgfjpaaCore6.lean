/- The abstract machine, part 6: addresses, loads, stores, new objects. -/
import Derived.Test.YtenfgllkjgfjpaaCore5
set_option linter.all false
namespace Go.Proofs.Ytenfgllkjgfjpaa
open Go.RowKit

section
variable {P : Program} {g : Ghost} {o : Oper} {s : St} {a : Act} {w : World} {blk : Nat → Option Nat} {K : St → Prop}

theorem szOf_some {t : TypeId} {k : Nat} (h : szOf P t = some k) : ∃ i, P.info? t = some i ∧ i.size = k := by
  simpa [szOf, Option.map_eq_some_iff] using h

theorem run_sizeOf' {t : TypeId} {i : TypeInfo} (h : P.info? t = some i) (w : World) : (sizeOf t).run P w = .ok i.size w := by
  simp [sizeOf, typeInfo, h]

theorem run_idx {t e : TypeId} {i : TypeInfo} (ht : P.underlying t = some (.slice e)) (hi : P.info? e = some i) {n : Int} {len cap : Nat} (h0 : 0 ≤ n) (h1 : n < len) (ad : Addr) (w : World) :
    (Instr.indexAt t (.slice (some ad) len cap) (.int .i64 n)).run P w = .ok (.pointer (some (ad.add (n.toNat * i.size)))) w := by
  simp [Instr.indexAt, asIntOf, run_underlying ht, run_sizeOf' hi, h0, h1]

theorem run_ida {t e : TypeId} {i : TypeInfo} {m : Nat} (ht : P.underlying t = some (.array m e)) (hi : P.info? e = some i) {n : Int} (h0 : 0 ≤ n) (h1 : n < m) (ad : Addr) (w : World) :
    (Instr.indexAt t (.pointer (some ad)) (.int .i64 n)).run P w = .ok (.pointer (some (ad.add (n.toNat * i.size)))) w := by
  simp [Instr.indexAt, asIntOf, run_underlying ht, run_sizeOf' hi, h0, h1, Instr.sureAddr]

theorem getD_of {α : Type} {l : List α} {n : Nat} {d : α} (h : n < l.length) : l[n]? = some (l.getD n d) := by
  simp [List.getD, List.getElem?_eq_getElem h]

theorem idx_ok (h : Repr g s a w blk) (hd : ∀ i, o.dst = some i → i < g.N) {t e : TypeId} {k : Nat} {p q : Operand} {xp xq : X} (ho : o.op = .indexAddr t p q) (ht : P.underlying t = some (.slice e)) (hk : szOf P e = some k)
    (hp : cx p = some xp) (hq : cx q = some xq) (hK : idxP k (s.ev xp) (s.ev xq) fun v => K (s.put o.dst v)) : OpOk P g o a w K := by
  obtain ⟨i, hi, rfl⟩ := szOf_some hk
  have ep := h.ev hp; have eq := h.ev hq
  have run : ∀ ad len cap (n : Int), a.eval p = .slice (some ad) len cap → a.eval q = .int .i64 n → 0 ≤ n → n < len → (execOp a.eval o).run P w = .ok (.value (.pointer (some (ad.add (n.toNat * i.size))))) w := by
    intro ad len cap n e1 e2 h0 h1
    simp [execOp, ho, e1, e2, run_idx ht hi h0 h1]
  revert hK ep eq run
  generalize s.ev xp = vp; generalize s.ev xq = vq; generalize a.eval p = v; generalize a.eval q = u
  intro hK ep eq run
  have rd : ∀ rows n, Rd w (Good g s.objs blk w) v (.sl i.size rows) → RVs g s w blk u (.c (.i n)) → 0 ≤ n → n < rows.length → K (s.put o.dst (.elt (rows.getD n.toNat []))) → OpOk P g o a w K := by
    intro rows n hr hn h0 h1 hK
    obtain ⟨rfl, _⟩ := hn.int
    cases hr with
    | sl vals e1 e2 e3 e4 e5 e6 e7 =>
      rename_i ad len cap
      subst e1
      have hs := e5 (by omega)
      cases ad with
      | none => simp at hs
      | some ad =>
        have hlt : n.toNat < rows.length := by omega
        refine OpOk.val2 h hd hK (run ad _ cap n rfl rfl h0 h1) ⟨_, rfl, fun j c hj => ?_⟩
        obtain ⟨ad', e, hg, hc⟩ := e6 n.toNat _ (getD_of hlt) j c hj
        cases e
        refine ⟨by rw [block_add]; exact hg, _, ?_, e7 n.toNat _ (getD_of hlt) j c hj⟩
        rw [add_add]; exact hc
  unfold idxP at hK
  split at hK
  · obtain ⟨rfl, h0, h1, hK⟩ := hK
    exact rd _ _ ep.c eq h0 h1 hK
  · obtain ⟨rfl, h0, h1, hK⟩ := hK
    obtain ⟨_, _, _, hr⟩ := ep
    exact rd _ _ hr eq h0 h1 hK
  · obtain ⟨rfl, h0, h1, hK⟩ := hK
    obtain ⟨rfl, _⟩ := eq.int
    obtain ⟨rows, hO, hn, hv⟩ := ep
    rcases hv with ⟨_, rfl, _⟩ | ⟨b, cap, arr, e, hb, rfl, h2, h3, h4, h5⟩
    · omega
    · refine OpOk.val2 h hd hK (run _ _ cap _ rfl rfl h0 h1) ⟨b, rows, hO, hb, ?_⟩
      rw [add_lit]; simp
  · exact hK.elim

theorem ida_ok (h : Repr g s a w blk) (hd : ∀ i, o.dst = some i → i < g.N) {t e : TypeId} {k m : Nat} {p q : Operand} {xp xq : X} (ho : o.op = .indexAddr t p q) (ht : P.underlying t = some (.array m e)) (hk : szOf P e = some k)
    (hp : cx p = some xp) (hq : cx q = some xq) (hK : idaP k m (s.ev xp) (s.ev xq) fun v => K (s.put o.dst v)) : OpOk P g o a w K := by
  obtain ⟨i, hi, rfl⟩ := szOf_some hk
  have ep := h.ev hp; have eq := h.ev hq
  revert hK ep eq
  generalize s.ev xp = vp; generalize s.ev xq = vq
  intro hK ep eq
  unfold idaP at hK
  split at hK
  · rename_i n
    obtain ⟨rfl, rfl, h0, h1, hK⟩ := hK
    obtain ⟨e2, _⟩ := eq.int
    obtain ⟨b, rows, hO, hb, e1⟩ := ep
    refine OpOk.val2 h hd hK (v := .pointer (some ⟨b, n.toNat * i.size, none⟩)) ?_ ⟨b, rows, hO, hb, by simp⟩
    simp [execOp, ho, e1, e2, run_ida ht hi h0 h1, add_lit]
  · exact hK.elim

theorem fld_ok (h : Repr g s a w blk) (hd : ∀ i, o.dst = some i → i < g.N) {t : TypeId} {fs : Array Field} {f k : Nat} {fl : Field} {p : Operand} {xp : X} (ho : o.op = .fieldAddr t p f) (ht : P.underlying t = some (.struct fs))
    (hf : fs[f]? = some fl) (hk : szOf P fl.type = some (k + 1)) (hp : cx p = some xp) (hK : fldP fl.offset (s.ev xp) fun v => K (s.put o.dst v)) : OpOk P g o a w K := by
  obtain ⟨i, hi, hik⟩ := szOf_some hk
  have ep := h.ev hp
  have run : ∀ ad : Addr, a.eval p = .pointer (some ad) → (execOp a.eval o).run P w = .ok (.value (.pointer (some (ad.add fl.offset)))) w := by
    intro ad e1
    simp [execOp, ho, e1, Instr.fieldAt, run_underlying ht, hf, Instr.sureAddr, fieldPlace, run_sizeOf' hi, hik]
  revert hK ep run
  generalize s.ev xp = vp; generalize a.eval p = v
  intro hK ep run
  unfold fldP at hK
  split at hK
  · obtain ⟨b, cells, hO, hb, rfl⟩ := ep
    exact OpOk.val2 h hd hK (run _ rfl) ⟨b, cells, hO, hb, by rw [add_lit]⟩
  · obtain ⟨b, cells, hO, hb, rfl⟩ := ep
    exact OpOk.val2 h hd hK (run _ rfl) ⟨b, cells, hO, hb, by rw [add_lit, Nat.add_assoc]⟩
  · rename_i cs
    obtain ⟨ad, rfl, hc⟩ := ep
    refine OpOk.val2 h hd hK (run _ rfl) ⟨_, rfl, fun j c hj => ?_⟩
    rw [List.getElem?_drop] at hj
    obtain ⟨hg, u, hu, hr⟩ := hc _ c hj
    exact ⟨by rw [block_add]; exact hg, u, by rw [add_add]; exact hu, hr⟩
  · exact hK.elim

theorem run_loadVar1 {t : TypeId} (ht : aggB P t = some false) {ad : Addr} {u : Value} (hu : w.cell? ad = some u) : (Instr.loadAt t (.pointer (some ad))).run P w = .ok u w := by
  unfold aggB at ht
  have : (isAgg t).run P w = .ok false w := by
    unfold isAgg
    split at ht
    · cases ht
    · cases ht
    · rename_i d h1 h2 h3
      simp only [Sem.run_bind, run_underlying h3, Result.andThen_ok]
      cases d <;> simp_all
    · cases ht
  simp [Instr.loadAt, Instr.sureAddr, loadVar, this, hu]

theorem run_loadVarN {t : TypeId} {n : Nat} (ht : aggB P t = some true) (hn : szOf P t = some n) {ad : Addr} {us : List Value} (hl : us.length = n) (hu : ∀ j u, us[j]? = some u → w.cell? (ad.add j) = some u) :
    (Instr.loadAt t (.pointer (some ad))).run P w = .ok (.agg us.toArray) w := by
  obtain ⟨i, hi, hin⟩ := szOf_some hn
  have h1 : (isAgg t).run P w = .ok true w := by
    unfold aggB at ht
    unfold isAgg
    split at ht
    · rename_i h3; simp only [Sem.run_bind, run_underlying h3, Result.andThen_ok, Sem.run_pure]
    · rename_i h3; simp only [Sem.run_bind, run_underlying h3, Result.andThen_ok, Sem.run_pure]
    · cases ht
    · cases ht
  have h2 := run_loadCells_list (P := P) w ad us hu
  rw [hl, ← hin] at h2
  simp [Instr.loadAt, Instr.sureAddr, loadVar, h1, run_sizeOf' hi, h2]

theorem cell_of (w : World) {b : Nat} {arr : Array Value} {e : TypeId} (h : w.heap[b]? = some (.cells arr e (0, 0))) (j : Nat) : w.cell? ⟨b, j, none⟩ = arr[j]? := cell_of_row w b j arr e (0, 0) h

/-- What a box holds. -/
theorem Repr.box (h : Repr g s a w blk) {id b : Nat} {cells : List AV} (hO : s.ob id = .box cells) (hb : blk id = some b) :
    ∃ (arr : Array Value) (e : TypeId), w.heap[b]? = some (.cells arr e (0, 0)) ∧ arr.size = cells.length ∧
      ∀ (j : Nat) (x : AV), cells[j]? = some x → ∃ u : Value, arr[j]? = some u ∧ RV1 w (Good g s.objs blk w) s.objs blk u x := by
  have h0 := h.objs id
  rw [show s.objs id = _ from hO] at h0
  obtain ⟨g', arr, e, e1, e2, e3, e4⟩ := h0
  rw [hb] at e1; cases e1
  exact ⟨arr, e, e2, e3, e4⟩

theorem Repr.row (h : Repr g s a w blk) {id b k : Nat} {rows : List (List C)} (hO : s.ob id = .row k rows) (hb : blk id = some b) :
    ∃ (arr : Array Value) (e : TypeId), w.heap[b]? = some (.cells arr e (0, 0)) ∧ rows.length * k ≤ arr.size ∧ (∀ r, r ∈ rows → r.length = k) ∧
      ∀ (i : Nat) (r : List C) (j : Nat) (c : C), rows[i]? = some r → r[j]? = some c → ∃ u : Value, arr[i * k + j]? = some u ∧ Rd w (Good g s.objs blk w) u c := by
  have h0 := h.objs id
  rw [show s.objs id = _ from hO] at h0
  rcases h0 with ⟨e1, _⟩ | ⟨g', arr, e, e1, e2, e3, e4, e5⟩
  · rw [hb] at e1; cases e1
  · rw [hb] at e1; cases e1
    exact ⟨arr, e, e2, e3, e4, e5⟩

theorem ld1_ok (h : Repr g s a w blk) (hd : ∀ i, o.dst = some i → i < g.N) {t : TypeId} {p : Operand} {xp : X} (ho : o.op = .load t p) (ht : aggB P t = some false)
    (hp : cx p = some xp) (hK : ld1P s (s.ev xp) fun v => K (s.put o.dst v)) : OpOk P g o a w K := by
  have ep := h.ev hp
  have run : ∀ (ad : Addr) u, a.eval p = .pointer (some ad) → w.cell? ad = some u → (execOp a.eval o).run P w = .ok (.value u) w := by
    intro ad u e1 e2
    simp [execOp, ho, e1, run_loadVar1 ht e2]
  revert hK ep run
  generalize s.ev xp = vp; generalize a.eval p = v
  intro hK ep run
  unfold ld1P at hK
  split at hK
  · rename_i id off
    obtain ⟨b, cells', hO', hb, rfl⟩ := ep
    split at hK
    · rename_i cells hO
      split at hK
      · rename_i x hx
        obtain ⟨arr, e, h1, h2, h3⟩ := h.box hO hb
        obtain ⟨u, hu, hr⟩ := h3 off x hx
        exact OpOk.val h hd (run _ u rfl (by rw [cell_of w h1]; exact hu)) (.of1 hr) hK
      · exact hK.elim
    · exact hK.elim
  · rename_i id k i off
    obtain ⟨b, rows', hO', hb, rfl⟩ := ep
    split at hK
    · rename_i k' rows hO
      obtain ⟨rfl, h0, h1, hK⟩ := hK
      obtain ⟨arr, e, e1, e2, e3, e4⟩ := h.row hO hb
      have hr := getD_of (d := []) h0
      have hl : (rows.getD i.toNat []).length = k' := e3 _ (List.mem_of_getElem? hr)
      obtain ⟨u, hu, hru⟩ := e4 _ _ off _ hr (getD_of (d := default) (by omega))
      exact OpOk.val h hd (run _ u rfl (by rw [cell_of w e1]; exact hu)) (.mk hru) hK
    · exact hK.elim
  · obtain ⟨ad, rfl, hc⟩ := ep
    split at hK
    · obtain ⟨hg, u, hu, hr⟩ := hc 0 _ rfl
      exact OpOk.val h hd (run _ u rfl (by simpa [Addr.add] using hu)) (.mk hr) hK
    · exact hK.elim
  · exact hK.elim

theorem ldn_ok (h : Repr g s a w blk) (hd : ∀ i, o.dst = some i → i < g.N) {t : TypeId} {n : Nat} {p : Operand} {xp : X} (ho : o.op = .load t p) (ht : aggB P t = some true) (hn : szOf P t = some n)
    (hp : cx p = some xp) (hK : ldnP n s (s.ev xp) fun v => K (s.put o.dst v)) : OpOk P g o a w K := by
  have ep := h.ev hp
  have run : ∀ (ad : Addr) (us : List Value), a.eval p = .pointer (some ad) → us.length = n → (∀ j u, us[j]? = some u → w.cell? (ad.add j) = some u) → (execOp a.eval o).run P w = .ok (.value (.agg us.toArray)) w := by
    intro ad us e1 e2 e3
    simp [execOp, ho, e1, run_loadVarN ht hn e2 e3]
  -- the cells, one by one
  have many : ∀ (ad : Addr) (l : List AV), a.eval p = .pointer (some ad) → l.length = n → (∀ j x, l[j]? = some x → ∃ u, w.cell? (ad.add j) = some u ∧ RV1 w (Good g s.objs blk w) s.objs blk u x) → K (s.put o.dst (.agg l)) → OpOk P g o a w K := by
    intro ad l e1 e2 e3 hK
    let us := (List.range n).map fun j => (w.cell? (ad.add j)).getD undef
    have hus : ∀ j x, l[j]? = some x → ∃ u, us[j]? = some u ∧ w.cell? (ad.add j) = some u ∧ RV1 w (Good g s.objs blk w) s.objs blk u x := by
      intro j x hx
      obtain ⟨u, hu, hr⟩ := e3 j x hx
      have hj : j < n := by rw [← e2]; exact (List.getElem?_eq_some_iff.1 hx).1
      exact ⟨u, by simp [us, hj, hu], hu, hr⟩
    have hlen : us.length = n := by simp [us]
    refine OpOk.val2 h hd hK (run ad us e1 hlen fun j u hu => ?_) ⟨us.toArray, rfl, by simp [hlen, e2], fun j x hx => ?_⟩
    · have hj : j < n := by rw [← hlen]; exact (List.getElem?_eq_some_iff.1 hu).1
      obtain ⟨u', hu', hc, _⟩ := hus j _ (List.getElem?_eq_getElem (by omega : j < l.length))
      rw [hu'] at hu; cases hu
      exact hc
    · obtain ⟨u, h1, h2, h3⟩ := hus j x hx
      exact ⟨u, by simpa using h1, h3⟩
  revert hK ep many
  generalize s.ev xp = vp; generalize a.eval p = v
  intro hK ep many
  unfold ldnP at hK
  split at hK
  · rename_i id off
    obtain ⟨b, cells', hO', hb, rfl⟩ := ep
    split at hK
    · rename_i cells hO
      obtain ⟨hle, hK⟩ := hK
      obtain ⟨arr, e, h1, h2, h3⟩ := h.box hO hb
      refine many _ _ rfl (by simp; omega) (fun j x hx => ?_) hK
      rw [List.getElem?_take] at hx
      split at hx
      · rw [List.getElem?_drop] at hx
        obtain ⟨u, hu, hr⟩ := h3 _ x hx
        exact ⟨u, by rw [add_lit, cell_of w h1]; exact hu, hr⟩
      · cases hx
    · exact hK.elim
  · rename_i id k i off
    obtain ⟨b, rows', hO', hb, rfl⟩ := ep
    split at hK
    · rename_i k' rows hO
      obtain ⟨rfl, h0, hle, hK⟩ := hK
      obtain ⟨arr, e, e1, e2, e3, e4⟩ := h.row hO hb
      have hr := getD_of (d := []) h0
      have hl : (rows.getD i.toNat []).length = k' := e3 _ (List.mem_of_getElem? hr)
      refine many _ _ rfl (by rw [List.length_map, List.length_take, List.length_drop, hl]; omega) (fun j x hx => ?_) hK
      rw [List.getElem?_map, Option.map_eq_some_iff] at hx
      obtain ⟨c, hc, rfl⟩ := hx
      rw [List.getElem?_take] at hc
      split at hc
      · rw [List.getElem?_drop] at hc
        obtain ⟨u, hu, hru⟩ := e4 _ _ _ c hr hc
        exact ⟨u, by rw [add_lit, cell_of w e1, Nat.add_assoc]; exact hu, hru⟩
      · cases hc
    · exact hK.elim
  · rename_i cs
    obtain ⟨ad, rfl, hc⟩ := ep
    obtain ⟨hle, hK⟩ := hK
    refine many _ _ rfl (by simp; omega) (fun j x hx => ?_) hK
    rw [List.getElem?_map, Option.map_eq_some_iff] at hx
    obtain ⟨c, hc', rfl⟩ := hx
    rw [List.getElem?_take] at hc'
    split at hc'
    · obtain ⟨_, u, hu, hr⟩ := hc j c hc'
      exact ⟨u, hu, hr⟩
    · cases hc'
  · exact hK.elim

end
end Go.Proofs.Ytenfgllkjgfjpaa
