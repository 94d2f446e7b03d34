/- The abstract machine, part 6: addresses, loads, stores, new objects. -/
import Derived.Test.YtenfgllkjgfjpaaMCore5
set_option linter.all false
namespace Go.Proofs.Ytenfgllkjgfjpaa
open Go.RowKit

section
variable {P : Program} {g : Ghost} {o : Oper} {s : St} {a : Act} {w : World} {blk : Lay} {K : St → Prop}

theorem szOf_some {t : TypeId} {k : Nat} (h : szOf P t = some k) : ∃ i, P.info? t = some i ∧ i.size = k := by
  simpa [szOf, Option.map_eq_some_iff] using h

theorem run_sizeOf' {t : TypeId} {i : TypeInfo} (h : P.info? t = some i) (w : World) : (sizeOf t).run P w = .ok i.size w := by
  simp [sizeOf, typeInfo, h]

theorem run_idx {t e : TypeId} {i : TypeInfo} (ht : P.underlying t = some (.slice e)) (hi : P.info? e = some i) {n : Int} {len cap : Nat} (h0 : 0 ≤ n) (h1 : n < len) (ad : Addr) (w : World) :
    (Instr.indexAt t (.slice (some ad) len cap) (.int .i64 n)).run P w = .ok (.pointer (some (ad.add (n.toNat * i.size)))) w := by
  simp [Instr.indexAt, asIntOf, run_underlying ht, run_sizeOf' hi, h0, h1]

theorem run_ida {t e : TypeId} {i : TypeInfo} {m : Nat} (ht : P.underlying t = some (.array m e)) (hi : P.info? e = some i) {n : Int} (h0 : 0 ≤ n) (h1 : n < m) (ad : Addr) (w : World) :
    (Instr.indexAt t (.pointer (some ad)) (.int .i64 n)).run P w = .ok (.pointer (some (ad.add (n.toNat * i.size)))) w := by
  simp [Instr.indexAt, asIntOf, run_underlying ht, run_sizeOf' hi, h0, h1, Instr.sureAddr]

theorem getD_of {α : Type} {l : List α} {n : Nat} {d : α} (h : n < l.length) : l[n]? = some (l.getD n d) := by
  simp [List.getD, List.getElem?_eq_getElem h]

theorem sz_slice {G : Nat → Prop} {u : Value} {c : C} {F : Nat → Prop} {k m : Nat} (h : OT w G u c F) (hc : c.sz = some (k, m)) (hm : 0 < m) : ∃ b cap, u = .slice (some ⟨b, 0, none⟩) m cap ∧ F b := by
  cases h with
  | sh h => cases h <;> simp [C.sz] at hc
  | jk => simp [C.sz] at hc
  | ow0 => simp [C.sz] at hc; omega
  | ot0 => simp [C.sz] at hc; omega
  | ow vals h1 h2 h3 h4 h5 h6 h7 => simp [C.sz] at hc; obtain ⟨_, rfl⟩ := hc; subst h2; exact ⟨_, _, rfl, h7⟩
  | ot vals Fs h1 h2 h3 h4 h5 h6 h7 => simp [C.sz] at hc; obtain ⟨_, rfl⟩ := hc; subst h2; exact ⟨_, _, rfl, h7⟩
  | bx => simp [C.sz] at hc
theorem sz_slice0 {G : Nat → Prop} {u : Value} {c : C} {F : Nat → Prop} {k m : Nat} (h : OT w G u c F) (hc : c.sz = some (k, m)) : ∃ A cap, u = .slice A m cap ∧ m ≤ cap ∧ m ≤ maxLen := by
  cases h with
  | sh h => cases h <;> simp [C.sz] at hc
  | jk => simp [C.sz] at hc
  | ow0 => simp [C.sz] at hc; obtain ⟨_, rfl⟩ := hc; exact ⟨_, _, rfl, Nat.le_refl _, by unfold maxLen; omega⟩
  | ot0 => simp [C.sz] at hc; obtain ⟨_, rfl⟩ := hc; exact ⟨_, _, rfl, Nat.le_refl _, by unfold maxLen; omega⟩
  | ow vals h1 h2 h3 h4 h5 h6 h7 => simp [C.sz] at hc; obtain ⟨_, rfl⟩ := hc; subst h2; exact ⟨_, _, rfl, h3, by omega⟩
  | ot vals Fs h1 h2 h3 h4 h5 h6 h7 => simp [C.sz] at hc; obtain ⟨_, rfl⟩ := hc; subst h2; exact ⟨_, _, rfl, h3, by omega⟩
  | bx => simp [C.sz] at hc

/-- What a tree holds. -/
theorem Repr.tree (h : Repr g s a w blk) {id b k ver : Nat} {rows : List (List C)} (hO : s.ob id = .tr k ver rows) (hb : blk id = some b) :
    ∃ (arr : Array Value) (e : TypeId), w.heap[b]? = some (.cells arr e (0, 0)) ∧ rows.length * k ≤ arr.size ∧ (∀ r, r ∈ rows → r.length = k) ∧ TreeOk w (Good g s.objs blk w) arr k rows (blk.sub id) b := by
  have h0 := h.objs id
  rw [show s.objs id = _ from hO] at h0
  rcases h0 with ⟨e1, _⟩ | ⟨g', arr, e, e1, e2, e3, e4, e5⟩
  · rw [hb] at e1; cases e1
  · rw [hb] at e1; cases e1
    exact ⟨arr, e, e2, e3, e4, e5⟩

/-- A cell of a tree. -/
theorem TreeOk.cell {G : Nat → Prop} {arr : Array Value} {k : Nat} {rows : List (List C)} {S : Nat → Prop} {b : Nat} {e : TypeId} (h : TreeOk w G arr k rows S b) (hh : w.heap[b]? = some (.cells arr e (0, 0))) {i j : Nat} {r : List C} {c : C} (hr : rows[i]? = some r) (hc : r[j]? = some c) :
    ∃ v F, w.cell? ⟨b, i * k + j, none⟩ = some v ∧ arr[i * k + j]? = some v ∧ OT w G v c F ∧ (∀ x, F x → S x ∧ x ≠ b) := by
  obtain ⟨vals, Fs, h1, h2, h3, h4⟩ := h
  have := h3 i r hr j c hc
  exact ⟨_, _, by rw [cell_of w hh]; exact this, this, h4 i r hr j c hc, fun x hx => h1 i j x hx⟩

/-- The header of a slice in a cell of a tree. -/
theorem Repr.sub (h : Repr g s a w blk) {id k0 ver : Nat} {rows : List (List C)} (hO : s.ob id = .tr k0 ver rows) {i : Int} {j k n : Nat} {v : Value} (hv : RVs g s w blk v (.sub id ver i j k n)) (hn : 0 < n) :
    ∃ b len cap F, SubAt w (blk id) k0 rows i.toNat j k n (.slice (some ⟨b, 0, none⟩) len cap) ∧ len = n ∧ v = .slice (some ⟨b, 0, none⟩) len cap ∧ (F : Nat → Prop) b := by
  obtain ⟨k1, ver1, rows1, ho, hle, hs⟩ := hv
  have e : s.objs id = .tr k0 ver rows := hO
  rw [e] at ho; cases ho
  have hs := hs rfl
  have hs' := hs
  obtain ⟨q, r, c, e1, e2, e3, e4, e5⟩ := hs
  obtain ⟨arr, e', t1, t2, t3, t4⟩ := h.tree hO e1
  obtain ⟨u, F, c1, c2, c3, c4⟩ := t4.cell t1 e3 e4
  rw [e2] at c1; cases c1
  obtain ⟨b, cap, rfl, hF⟩ := sz_slice c3 e5 hn
  exact ⟨b, n, cap, F, hs', rfl, rfl, hF⟩
theorem Repr.sub0 (h : Repr g s a w blk) {id k0 ver : Nat} {rows : List (List C)} (hO : s.ob id = .tr k0 ver rows) {i : Int} {j k n : Nat} {v : Value} (hv : RVs g s w blk v (.sub id ver i j k n)) :
    ∃ q r c A cap F, blk id = some q ∧ w.cell? ⟨q, i.toNat * k0 + j, none⟩ = some v ∧ rows[i.toNat]? = some r ∧ r[j]? = some c ∧ c.sz = some (k, n) ∧ v = .slice A n cap ∧ n ≤ cap ∧ n ≤ maxLen ∧ OT w (Good g s.objs blk w) v c F ∧ (∀ x, F x → blk.sub id x ∧ x ≠ q) := by
  obtain ⟨k1, ver1, rows1, ho, hle, hs⟩ := hv
  have e : s.objs id = .tr k0 ver rows := hO
  rw [e] at ho; cases ho
  obtain ⟨q, r, c, e1, e2, e3, e4, e5⟩ := hs rfl
  obtain ⟨arr, e', t1, t2, t3, t4⟩ := h.tree hO e1
  obtain ⟨u, F, c1, c2, c3, c4⟩ := t4.cell t1 e3 e4
  rw [e2] at c1; cases c1
  obtain ⟨A, cap, rfl, h1, h2⟩ := sz_slice0 c3 e5
  exact ⟨q, r, c, A, cap, F, e1, e2, e3, e4, e5, rfl, h1, h2, c3, c4⟩

theorem slen_sub_ok (h : Repr g s a w blk) {id k0 ver : Nat} {rows : List (List C)} (hO : s.ob id = .tr k0 ver rows) {i : Int} {j k n : Nat} {v : Value} (hv : RVs g s w blk v (.sub id ver i j k n)) : ∃ A cap, v = .slice A n cap ∧ n ≤ maxLen := by
  obtain ⟨q, r, c, A, cap, F, _, _, _, _, _, h1, _, h2, _⟩ := h.sub0 hO hv
  exact ⟨A, cap, h1, h2⟩

theorem idx_ok (h : Repr g s a w blk) (hd : ∀ i, o.dst = some i → i < g.N) {t e : TypeId} {k : Nat} {p q : Operand} {xp xq : X} (ho : o.op = .indexAddr t p q) (ht : P.underlying t = some (.slice e)) (hk : szOf P e = some k)
    (hp : cx p = some xp) (hq : cx q = some xq) (hK : idxP k s (s.ev xp) (s.ev xq) fun v => K (s.put o.dst v)) : OpOk P g o a w K := by
  obtain ⟨i, hi, rfl⟩ := szOf_some hk
  have ep := h.ev hp; have eq := h.ev hq
  have run : ∀ ad len cap (n : Int), a.eval p = .slice (some ad) len cap → a.eval q = .int .i64 n → 0 ≤ n → n < len → (execOp a.eval o).run P w = .ok (.value (.pointer (some (ad.add (n.toNat * i.size))))) w := by
    intro ad len cap n e1 e2 h0 h1
    simp [execOp, ho, e1, e2, run_idx ht hi h0 h1]
  revert hK ep eq run
  generalize s.ev xp = vp; generalize s.ev xq = vq; generalize a.eval p = v; generalize a.eval q = u
  intro hK ep eq run
  have rd : ∀ rows n, Rd w (Good g s.objs blk w) v (.sl i.size rows) → RVs g s w blk u (.c (.i n)) → 0 ≤ n → n < rows.length → K (s.put o.dst (.elt (rows.getD n.toNat []))) → OpOk P g o a w K := by
    intro rows n hr hn h0 h1 hK
    obtain ⟨rfl, _⟩ := hn.int
    cases hr with
    | sl vals e1 e2 e3 e4 e5 e6 e7 =>
      rename_i ad len cap
      subst e1
      have hs := e5 (by omega)
      cases ad with
      | none => simp at hs
      | some ad =>
        have hlt : n.toNat < rows.length := by omega
        refine OpOk.val2 h hd hK (run ad _ cap n rfl rfl h0 h1) ⟨_, rfl, fun j c hj => ?_⟩
        obtain ⟨ad', e, hg, hc⟩ := e6 n.toNat _ (getD_of hlt) j c hj
        cases e
        refine ⟨by rw [block_add]; exact hg, _, ?_, e7 n.toNat _ (getD_of hlt) j c hj⟩
        rw [add_add]; exact hc
  unfold idxP at hK
  split at hK
  · obtain ⟨rfl, h0, h1, hK⟩ := hK
    exact rd _ _ ep.c eq h0 h1 hK
  · obtain ⟨rfl, h0, h1, hK⟩ := hK
    obtain ⟨_, _, _, hr⟩ := ep
    exact rd _ _ hr eq h0 h1 hK
  · obtain ⟨rfl, h0, h1, hK⟩ := hK
    obtain ⟨rfl, _⟩ := eq.int
    obtain ⟨m, hO, hn, hv⟩ := ep
    rcases hv with ⟨_, rfl, _⟩ | ⟨b, cap, arr, e, hb, rfl, h2, h3, h4, h5⟩
    · omega
    · refine OpOk.val2 h hd hK (run _ _ cap _ rfl rfl h0 h1) ⟨b, m, hO, hb, ?_⟩
      rw [add_lit]; simp
  · rename_i id k' lo m n
    obtain ⟨rfl, h0, h1, hK⟩ := hK
    obtain ⟨rfl, _⟩ := eq.int
    obtain ⟨m', A, c, hO, hn, rfl, h2, h3, h4⟩ := ep
    obtain ⟨b, hb, rfl⟩ := h4 (by omega)
    refine OpOk.val2 h hd hK (run _ _ c _ rfl rfl h0 h1) ⟨b, m', hO, hb, ?_⟩
    rw [add_lit, show ((lo : Int) + n).toNat = lo + n.toNat by omega, Nat.add_mul, Nat.add_zero]
  · rename_i id ver i' j k' m n
    split at hK
    · rename_i k0 ver' rows hO'
      obtain ⟨rfl, rfl, h0, h1, hK⟩ := hK
      obtain ⟨rfl, _⟩ := eq.int
      obtain ⟨b, len, cap, F, hs, hlen, rfl, _⟩ := h.sub hO' ep (by omega)
      refine OpOk.val2 h hd hK (run _ len cap _ rfl rfl h0 (by omega)) ⟨k0, ver', rows, hO', Nat.le_refl _, fun _ => ⟨b, len, cap, m, hs, ?_⟩⟩
      rw [add_lit]; simp
    · exact hK.elim
  · exact hK.elim

theorem len_ok (h : Repr g s a w blk) (hd : ∀ i, o.dst = some i → i < g.N) {t e : TypeId} {p : Operand} {xp : X} (ho : o.op = .call { callee := .builtin .len, args := #[p], argTypes := #[t] }) (ht : P.underlying t = some (.slice e))
    (hp : cx p = some xp) (hK : lenP s (s.ev xp) fun v => K (s.put o.dst v)) : OpOk P g o a w K := by
  have ep := h.ev hp
  have run : ∀ ad n c, a.eval p = .slice ad n c → (execOp a.eval o).run P w = .ok (.value (.int .i64 n)) w := by
    intro ad n c e1
    simp [execOp, ho, resolve, invoke, builtin, e1, Builtin.len_, run_underlying ht, goInt]
  revert hK ep run
  generalize s.ev xp = vp; generalize a.eval p = v
  intro hK ep run
  have rd : ∀ k rows, Rd w (Good g s.objs blk w) v (.sl k rows) → (rows.length ≤ maxLen → K (s.put o.dst (.c (.i rows.length)))) → OpOk P g o a w K := by
    intro k rows hr hK
    cases hr with
    | sl vals h1 h2 h3 h4 h5 h6 h7 =>
      rename_i ad len cap
      subst h1
      have hm : rows.length ≤ maxLen := by omega
      exact OpOk.val h hd (run ad _ cap rfl) (.mkI (by unfold maxLen at hm; constructor <;> omega)) (hK hm)
  unfold lenP at hK
  split at hK
  · exact rd _ _ ep.c hK
  · obtain ⟨_, _, _, hr⟩ := ep
    exact rd _ _ hr hK
  · rename_i id k n
    obtain ⟨rows, _, _, hv⟩ := ep
    rcases hv with ⟨_, rfl, _, rfl⟩ | ⟨b, cap, arr, e, _, rfl, h1, h2, _⟩
    · exact OpOk.val h hd (run _ _ _ rfl) (.mkI (by constructor <;> omega)) (hK (by simp))
    · have hm : n ≤ maxLen := by omega
      exact OpOk.val h hd (run _ _ _ rfl) (.mkI (by unfold maxLen at hm; constructor <;> omega)) (hK hm)
  · rename_i id k lo n
    obtain ⟨m, A, c, _, _, rfl, h1, h2, _⟩ := ep
    have hm : n ≤ maxLen := by omega
    exact OpOk.val h hd (run _ _ _ rfl) (.mkI (by unfold maxLen at hm; constructor <;> omega)) (hK hm)
  · rename_i id ver i j k n
    split at hK
    · rename_i k0 ver' rows hO
      obtain ⟨rfl, hK⟩ := hK
      obtain ⟨A, cap, rfl, hm⟩ := slen_sub_ok h hO ep
      exact OpOk.val h hd (run _ _ _ rfl) (.mkI (by unfold maxLen at hm; constructor <;> omega)) (hK hm)
    · exact hK.elim
  · cases ep
    exact OpOk.val h hd (run _ _ _ rfl) (.mkI (by constructor <;> omega)) hK
  · exact hK.elim

theorem ida_ok (h : Repr g s a w blk) (hd : ∀ i, o.dst = some i → i < g.N) {t e : TypeId} {k m : Nat} {p q : Operand} {xp xq : X} (ho : o.op = .indexAddr t p q) (ht : P.underlying t = some (.array m e)) (hk : szOf P e = some k)
    (hp : cx p = some xp) (hq : cx q = some xq) (hK : idaP k m (s.ev xp) (s.ev xq) fun v => K (s.put o.dst v)) : OpOk P g o a w K := by
  obtain ⟨i, hi, rfl⟩ := szOf_some hk
  have ep := h.ev hp; have eq := h.ev hq
  revert hK ep eq
  generalize s.ev xp = vp; generalize s.ev xq = vq
  intro hK ep eq
  unfold idaP at hK
  split at hK
  · rename_i n
    obtain ⟨rfl, rfl, h0, h1, hK⟩ := hK
    obtain ⟨e2, _⟩ := eq.int
    obtain ⟨b, m, hO, hb, e1⟩ := ep
    refine OpOk.val2 h hd hK (v := .pointer (some ⟨b, n.toNat * i.size, none⟩)) ?_ ⟨b, m, hO, hb, by simp⟩
    simp [execOp, ho, e1, e2, run_ida ht hi h0 h1, add_lit]
  · exact hK.elim

theorem fld_ok (h : Repr g s a w blk) (hd : ∀ i, o.dst = some i → i < g.N) {t : TypeId} {fs : Array Field} {f k : Nat} {fl : Field} {p : Operand} {xp : X} (ho : o.op = .fieldAddr t p f) (ht : P.underlying t = some (.struct fs))
    (hf : fs[f]? = some fl) (hk : szOf P fl.type = some (k + 1)) (hp : cx p = some xp) (hK : fldP fl.offset s (s.ev xp) fun v => K (s.put o.dst v)) : OpOk P g o a w K := by
  obtain ⟨i, hi, hik⟩ := szOf_some hk
  have ep := h.ev hp
  have run : ∀ ad : Addr, a.eval p = .pointer (some ad) → (execOp a.eval o).run P w = .ok (.value (.pointer (some (ad.add fl.offset)))) w := by
    intro ad e1
    simp [execOp, ho, e1, Instr.fieldAt, run_underlying ht, hf, Instr.sureAddr, fieldPlace, run_sizeOf' hi, hik]
  revert hK ep run
  generalize s.ev xp = vp; generalize a.eval p = v
  intro hK ep run
  unfold fldP at hK
  split at hK
  · obtain ⟨b, cells, hO, hb, rfl⟩ := ep
    exact OpOk.val2 h hd hK (run _ rfl) ⟨b, cells, hO, hb, by rw [add_lit]⟩
  · obtain ⟨b, cells, hO, hb, rfl⟩ := ep
    exact OpOk.val2 h hd hK (run _ rfl) ⟨b, cells, hO, hb, by rw [add_lit, Nat.add_assoc]⟩
  · rename_i cs
    obtain ⟨ad, rfl, hc⟩ := ep
    refine OpOk.val2 h hd hK (run _ rfl) ⟨_, rfl, fun j c hj => ?_⟩
    rw [List.getElem?_drop] at hj
    obtain ⟨hg, u, hu, hr⟩ := hc _ c hj
    exact ⟨by rw [block_add]; exact hg, u, by rw [add_add]; exact hu, hr⟩
  · rename_i id ver i' j k' i2 off
    split at hK
    · rename_i k0 ver' rows hO
      obtain ⟨rfl, hK⟩ := hK
      obtain ⟨k1, ver1, rows1, ho, hle, hs⟩ := ep
      have e : s.objs id = .tr k0 ver' rows := hO
      rw [e] at ho; cases ho
      obtain ⟨b, len, cap, n, hsub, rfl⟩ := hs rfl
      exact OpOk.val2 h hd hK (run _ rfl) ⟨k0, ver', rows, hO, Nat.le_refl _, fun _ => ⟨b, len, cap, n, hsub, by rw [add_lit, Nat.add_assoc]⟩⟩
    · exact hK.elim
  · exact hK.elim

theorem run_loadVar1 {t : TypeId} (ht : aggB P t = some false) {ad : Addr} {u : Value} (hu : w.cell? ad = some u) : (Instr.loadAt t (.pointer (some ad))).run P w = .ok u w := by
  unfold aggB at ht
  have : (isAgg t).run P w = .ok false w := by
    unfold isAgg
    split at ht
    · cases ht
    · cases ht
    · rename_i d h1 h2 h3
      simp only [Sem.run_bind, run_underlying h3, Result.andThen_ok]
      cases d <;> simp_all
    · cases ht
  simp [Instr.loadAt, Instr.sureAddr, loadVar, this, hu]

theorem run_loadVarN {t : TypeId} {n : Nat} (ht : aggB P t = some true) (hn : szOf P t = some n) {ad : Addr} {us : List Value} (hl : us.length = n) (hu : ∀ j u, us[j]? = some u → w.cell? (ad.add j) = some u) :
    (Instr.loadAt t (.pointer (some ad))).run P w = .ok (.agg us.toArray) w := by
  obtain ⟨i, hi, hin⟩ := szOf_some hn
  have h1 : (isAgg t).run P w = .ok true w := by
    unfold aggB at ht
    unfold isAgg
    split at ht
    · rename_i h3; simp only [Sem.run_bind, run_underlying h3, Result.andThen_ok, Sem.run_pure]
    · rename_i h3; simp only [Sem.run_bind, run_underlying h3, Result.andThen_ok, Sem.run_pure]
    · cases ht
    · cases ht
  have h2 := run_loadCells_list (P := P) w ad us hu
  rw [hl, ← hin] at h2
  simp [Instr.loadAt, Instr.sureAddr, loadVar, h1, run_sizeOf' hi, h2]

/-- What a box holds. -/
theorem Repr.box (h : Repr g s a w blk) {id b : Nat} {cells : List AV} (hO : s.ob id = .box cells) (hb : blk id = some b) :
    ∃ (arr : Array Value) (e : TypeId), w.heap[b]? = some (.cells arr e (0, 0)) ∧ arr.size = cells.length ∧
      ∀ (j : Nat) (x : AV), cells[j]? = some x → ∃ u : Value, arr[j]? = some u ∧ RV1 w (Good g s.objs blk w) s.objs blk u x := by
  have h0 := h.objs id
  rw [show s.objs id = _ from hO] at h0
  obtain ⟨g', arr, e, e1, e2, e3, e4⟩ := h0
  rw [hb] at e1; cases e1
  exact ⟨arr, e, e2, e3, e4⟩

theorem Repr.row (h : Repr g s a w blk) {id b k : Nat} {rows : List (List C)} (hO : s.ob id = .row k rows) (hb : blk id = some b) :
    ∃ (arr : Array Value) (e : TypeId), w.heap[b]? = some (.cells arr e (0, 0)) ∧ rows.length * k ≤ arr.size ∧ (∀ r, r ∈ rows → r.length = k) ∧
      ∀ (i : Nat) (r : List C) (j : Nat) (c : C), rows[i]? = some r → r[j]? = some c → ∃ u : Value, arr[i * k + j]? = some u ∧ Rd w (Good g s.objs blk w) u c := by
  have h0 := h.objs id
  rw [show s.objs id = _ from hO] at h0
  rcases h0 with ⟨e1, _⟩ | ⟨g', arr, e, e1, e2, e3, e4, e5⟩
  · rw [hb] at e1; cases e1
  · rw [hb] at e1; cases e1
    exact ⟨arr, e, e2, e3, e4, e5⟩

theorem ot_plain {G : Nat → Prop} {v : Value} {c : C} {F : Nat → Prop} (h : OT w G v c F) (hc : c.plain = true) : Rd w G v c := by
  cases h <;> first | assumption | simp [C.plain] at hc
theorem av_ok (h : Repr g s a w blk) {id k ver q : Nat} {rows : List (List C)} {r : List C} {i : Int} {j : Nat} {c : C} {v : Value} {F : Nat → Prop} (hO : s.ob id = .tr k ver rows) (hq : blk id = some q) (hcell : w.cell? ⟨q, i.toNat * k + j, none⟩ = some v) (hr : rows[i.toNat]? = some r) (hc : r[j]? = some c)
    (ho : OT w (Good g s.objs blk w) v c F) : RV1 w (Good g s.objs blk w) s.objs blk v (c.av id ver i j) := by
  cases c with
  | ow k' rs => exact ⟨k, ver, rows, hO, Nat.le_refl _, fun _ => ⟨q, r, _, hq, hcell, hr, hc, rfl⟩⟩
  | ot k' rs => exact ⟨k, ver, rows, hO, Nat.le_refl _, fun _ => ⟨q, r, _, hq, hcell, hr, hc, rfl⟩⟩
  | bx l => trivial
  | jk => trivial
  | i n => exact ot_plain ho rfl
  | b n => exact ot_plain ho rfl
  | u n => exact ot_plain ho rfl
  | s n => exact ot_plain ho rfl
  | sl k' rs => exact ot_plain ho rfl
theorem av2_ok {G : Nat → Prop} {O : Nat → Obj} {blk : Nat → Option Nat} {c : C} {v : Value} {F : Nat → Prop} (ho : OT w G v c F) : RV1 w G O blk v c.av2 := by
  cases c with
  | ow k' rs => trivial
  | ot k' rs => trivial
  | bx l => trivial
  | jk => trivial
  | i n => exact ot_plain ho rfl
  | b n => exact ot_plain ho rfl
  | u n => exact ot_plain ho rfl
  | s n => exact ot_plain ho rfl
  | sl k' rs => exact ot_plain ho rfl
theorem avs_get {id ver : Nat} {i : Int} : ∀ {l : List C} {j0 j : Nat} {x : AV}, (avs id ver i j0 l)[j]? = some x → ∃ c, l[j]? = some c ∧ x = c.av id ver i (j0 + j)
  | [], j0, j, x, h => by simp [avs] at h
  | c :: l, j0, j, x, h => by
    cases j with
    | zero => simp [avs] at h; exact ⟨c, rfl, h.symm⟩
    | succ j =>
      simp only [avs, List.getElem?_cons_succ] at h
      obtain ⟨c', h1, h2⟩ := avs_get h
      exact ⟨c', by simpa using h1, by rw [h2]; congr 1; omega⟩
theorem avs_length {id ver : Nat} {i : Int} : ∀ {l : List C} {j0 : Nat}, (avs id ver i j0 l).length = l.length
  | [], _ => rfl
  | c :: l, j0 => by simp [avs, avs_length]
theorem cellAt_some {rows : List (List C)} {i j : Nat} {c : C} (h : cellAt rows i j = some c) : ∃ r, rows[i]? = some r ∧ r[j]? = some c := by
  unfold cellAt at h
  split at h
  · exact ⟨_, ‹_›, h⟩
  · cases h

/-- A pointer into a slice that lies in a cell of a tree. -/
theorem Repr.srow (h : Repr g s a w blk) {id k0 ver : Nat} {rows : List (List C)} (hO : s.ob id = .tr k0 ver rows) {i i' : Int} {j k off : Nat} {v : Value} (hv : RVs g s w blk v (.srow id ver i j k i' off)) {c : C} (hc : cellAt rows i.toNat j = some c) {k' : Nat} {rs : List (List C)} (hcs : c = .ow k' rs ∨ c = .ot k' rs) (hk : k' = k) (hlt : i'.toNat < rs.length) :
    ∃ b arr e, v = .pointer (some ⟨b, i'.toNat * k + off, none⟩) ∧ w.heap[b]? = some (.cells arr e (0, 0)) ∧ (∀ r, r ∈ rs → r.length = k) ∧ ∀ (i2 : Nat) (r : List C) (j2 : Nat) (c2 : C), rs[i2]? = some r → r[j2]? = some c2 → ∃ u F, arr[i2 * k + j2]? = some u ∧ OT w (Good g s.objs blk w) u c2 F := by
  obtain ⟨k1, ver1, rows1, ho, hle, hs⟩ := hv
  have e : s.objs id = .tr k0 ver rows := hO
  rw [e] at ho; cases ho
  obtain ⟨b, len, cap, n, ⟨q, r, c', e1, e2, e3, e4, e5⟩, rfl⟩ := hs rfl
  obtain ⟨r', f1, f2⟩ := cellAt_some hc
  rw [e3] at f1; cases f1
  rw [e4] at f2; cases f2
  obtain ⟨arr, e', t1, t2, t3, t4⟩ := h.tree hO e1
  obtain ⟨u, F, c1, c2, c3, c4⟩ := t4.cell t1 e3 e4
  rw [e2] at c1; cases c1
  subst hk
  rcases hcs with rfl | rfl
  · cases c3 with
    | sh h => cases h
    | ow0 => simp at hlt
    | ow vals h1 h2 h3 h4 h5 h6 h7 h8 h9 => exact ⟨b, _, _, rfl, h1, h6, fun i2 r j2 c2 hr hc => ⟨_, noF, h8 _ _ hr _ _ hc, .sh (h9 _ _ hr _ _ hc)⟩⟩
  · cases c3 with
    | sh h => cases h
    | ot0 => simp at hlt
    | ot vals Fs h1 h2 h3 h4 h5 h6 h7 h8 h9 h10 h11 => exact ⟨b, _, _, rfl, h1, h6, fun i2 r j2 c2 hr hc => ⟨_, _, h10 _ _ hr _ _ hc, h11 _ _ hr _ _ hc⟩⟩

theorem ow_cell (h : Repr g s a w blk) {id k0 ver : Nat} {rows : List (List C)} (hO : s.ob id = .tr k0 ver rows) {i i' : Int} {j k off : Nat} {b : Nat} (hv : RVs g s w blk (.pointer (some ⟨b, i'.toNat * k + off, none⟩)) (.srow id ver i j k i' off)) {k' : Nat} {rs : List (List C)} (hc : cellAt rows i.toNat j = some (.ow k' rs)) (hk : k' = k)
    {i2 j2 : Nat} {r2 : List C} {c2 : C} (hr2 : rs[i2]? = some r2) (hc2 : r2[j2]? = some c2) {u : Value} (hu : w.cell? ⟨b, i2 * k + j2, none⟩ = some u) {x : AV} (hx : x = .c c2) : RV1 w (Good g s.objs blk w) s.objs blk u (.c c2) := by
  obtain ⟨k1, ver1, rows1, ho, hle, hs⟩ := hv
  have e : s.objs id = .tr k0 ver rows := hO
  rw [e] at ho; cases ho
  obtain ⟨b', len, cap, n, ⟨q, r, c', e1, e2, e3, e4, e5⟩, hp⟩ := hs rfl
  cases hp
  obtain ⟨r', f1, f2⟩ := cellAt_some hc
  rw [e3] at f1; cases f1
  rw [e4] at f2; cases f2
  obtain ⟨arr, e', t1, t2, t3, t4⟩ := h.tree hO e1
  obtain ⟨u', F, c1, c2', c3, c4⟩ := t4.cell t1 e3 e4
  rw [e2] at c1; cases c1
  subst hk
  cases c3 with
  | sh h => cases h
  | ow0 => simp at hr2
  | ow vals h1 h2 h3 h4 h5 h6 h7 h8 h9 =>
    rw [cell_of w h1, h8 _ _ hr2 _ _ hc2] at hu
    cases hu
    exact h9 _ _ hr2 _ _ hc2

theorem ld1_ok (h : Repr g s a w blk) (hd : ∀ i, o.dst = some i → i < g.N) {t : TypeId} {p : Operand} {xp : X} (ho : o.op = .load t p) (ht : aggB P t = some false)
    (hp : cx p = some xp) (hK : ld1P s (s.ev xp) fun v => K (s.put o.dst v)) : OpOk P g o a w K := by
  have ep := h.ev hp
  have run : ∀ (ad : Addr) u, a.eval p = .pointer (some ad) → w.cell? ad = some u → (execOp a.eval o).run P w = .ok (.value u) w := by
    intro ad u e1 e2
    simp [execOp, ho, e1, run_loadVar1 ht e2]
  revert hK ep run
  generalize s.ev xp = vp; generalize a.eval p = v
  intro hK ep run
  unfold ld1P at hK
  split at hK
  · rename_i id off
    obtain ⟨b, cells', hO', hb, rfl⟩ := ep
    split at hK
    · rename_i cells hO
      split at hK
      · rename_i x hx
        obtain ⟨arr, e, h1, h2, h3⟩ := h.box hO hb
        obtain ⟨u, hu, hr⟩ := h3 off x hx
        exact OpOk.val h hd (run _ u rfl (by rw [cell_of w h1]; exact hu)) (.of1 hr) hK
      · exact hK.elim
    · exact hK.elim
  · rename_i id k i off
    obtain ⟨b, rows', hO', hb, rfl⟩ := ep
    split at hK
    · rename_i k' rows hO
      obtain ⟨rfl, h0, h1, hK⟩ := hK
      obtain ⟨arr, e, e1, e2, e3, e4⟩ := h.row hO hb
      have hr := getD_of (d := []) h0
      have hl : (rows.getD i.toNat []).length = k' := e3 _ (List.mem_of_getElem? hr)
      obtain ⟨u, hu, hru⟩ := e4 _ _ off _ hr (getD_of (d := default) (by omega))
      exact OpOk.val h hd (run _ u rfl (by rw [cell_of w e1]; exact hu)) (.mk hru) hK
    · rename_i k' ver rows hO
      obtain ⟨rfl, h0, h1, hK⟩ := hK
      obtain ⟨arr, e, e1, e2, e3, e4⟩ := h.tree hO hb
      have hr := getD_of (d := []) h0
      have hl : (rows.getD i.toNat []).length = k' := e3 _ (List.mem_of_getElem? hr)
      have hc := getD_of (l := rows.getD i.toNat []) (n := off) (d := default) (by omega)
      obtain ⟨u, F, c1, c2, c3, _⟩ := e4.cell e1 hr hc
      exact OpOk.val2 h hd hK (run _ u rfl c1) (.of1 (av_ok h hO hb c1 hr hc c3))
    · exact hK.elim
  · rename_i id ver i j k i' off
    split at hK
    · rename_i k0 ver' rows hO
      obtain ⟨rfl, hK⟩ := hK
      split at hK
      · rename_i k' rs hc
        obtain ⟨hk, h0, h1, hK⟩ := hK
        obtain ⟨b, arr, e, rfl, e1, e2, e3⟩ := h.srow hO ep hc (.inl rfl) hk h0
        have hr := getD_of (d := []) h0
        have hl : (rs.getD i'.toNat []).length = k := e2 _ (List.mem_of_getElem? hr)
        obtain ⟨u, F, hu, hot⟩ := e3 _ _ off _ hr (getD_of (d := default) (by omega))
        refine OpOk.val2 h hd hK (run _ u rfl (by rw [cell_of w e1]; exact hu)) ?_
        exact ow_cell h hO ep hc hk hr (getD_of (d := default) (by omega)) (by rw [cell_of w e1]; exact hu) rfl
      · rename_i k' rs hc
        obtain ⟨hk, h0, h1, hK⟩ := hK
        obtain ⟨b, arr, e, rfl, e1, e2, e3⟩ := h.srow hO ep hc (.inr rfl) hk h0
        have hr := getD_of (d := []) h0
        have hl : (rs.getD i'.toNat []).length = k := e2 _ (List.mem_of_getElem? hr)
        obtain ⟨u, F, hu, hot⟩ := e3 _ _ off _ hr (getD_of (d := default) (by omega))
        exact OpOk.val2 h hd hK (run _ u rfl (by rw [cell_of w e1]; exact hu)) (.of1 (av2_ok hot))
      · exact hK.elim
    · exact hK.elim
  · obtain ⟨ad, rfl, hc⟩ := ep
    split at hK
    · obtain ⟨hg, u, hu, hr⟩ := hc 0 _ rfl
      exact OpOk.val h hd (run _ u rfl (by simpa [Addr.add] using hu)) (.mk hr) hK
    · exact hK.elim
  · exact hK.elim

theorem ldn_ok (h : Repr g s a w blk) (hd : ∀ i, o.dst = some i → i < g.N) {t : TypeId} {n : Nat} {p : Operand} {xp : X} (ho : o.op = .load t p) (ht : aggB P t = some true) (hn : szOf P t = some n)
    (hp : cx p = some xp) (hK : ldnP n s (s.ev xp) fun v => K (s.put o.dst v)) : OpOk P g o a w K := by
  have ep := h.ev hp
  have run : ∀ (ad : Addr) (us : List Value), a.eval p = .pointer (some ad) → us.length = n → (∀ j u, us[j]? = some u → w.cell? (ad.add j) = some u) → (execOp a.eval o).run P w = .ok (.value (.agg us.toArray)) w := by
    intro ad us e1 e2 e3
    simp [execOp, ho, e1, run_loadVarN ht hn e2 e3]
  -- the cells, one by one
  have many : ∀ (ad : Addr) (l : List AV), a.eval p = .pointer (some ad) → l.length = n → (∀ j x, l[j]? = some x → ∃ u, w.cell? (ad.add j) = some u ∧ RV1 w (Good g s.objs blk w) s.objs blk u x) → K (s.put o.dst (.agg l)) → OpOk P g o a w K := by
    intro ad l e1 e2 e3 hK
    let us := (List.range n).map fun j => (w.cell? (ad.add j)).getD undef
    have hus : ∀ j x, l[j]? = some x → ∃ u, us[j]? = some u ∧ w.cell? (ad.add j) = some u ∧ RV1 w (Good g s.objs blk w) s.objs blk u x := by
      intro j x hx
      obtain ⟨u, hu, hr⟩ := e3 j x hx
      have hj : j < n := by rw [← e2]; exact (List.getElem?_eq_some_iff.1 hx).1
      exact ⟨u, by simp [us, hj, hu], hu, hr⟩
    have hlen : us.length = n := by simp [us]
    refine OpOk.val2 h hd hK (run ad us e1 hlen fun j u hu => ?_) ⟨us.toArray, rfl, by simp [hlen, e2], fun j x hx => ?_⟩
    · have hj : j < n := by rw [← hlen]; exact (List.getElem?_eq_some_iff.1 hu).1
      obtain ⟨u', hu', hc, _⟩ := hus j _ (List.getElem?_eq_getElem (by omega : j < l.length))
      rw [hu'] at hu; cases hu
      exact hc
    · obtain ⟨u, h1, h2, h3⟩ := hus j x hx
      exact ⟨u, by simpa using h1, h3⟩
  revert hK ep many
  generalize s.ev xp = vp; generalize a.eval p = v
  intro hK ep many
  unfold ldnP at hK
  split at hK
  · rename_i id off
    obtain ⟨b, cells', hO', hb, rfl⟩ := ep
    split at hK
    · rename_i cells hO
      obtain ⟨hle, hK⟩ := hK
      obtain ⟨arr, e, h1, h2, h3⟩ := h.box hO hb
      refine many _ _ rfl (by simp; omega) (fun j x hx => ?_) hK
      rw [List.getElem?_take] at hx
      split at hx
      · rw [List.getElem?_drop] at hx
        obtain ⟨u, hu, hr⟩ := h3 _ x hx
        exact ⟨u, by rw [add_lit, cell_of w h1]; exact hu, hr⟩
      · cases hx
    · exact hK.elim
  · rename_i id k i off
    obtain ⟨b, rows', hO', hb, rfl⟩ := ep
    split at hK
    · rename_i k' rows hO
      obtain ⟨rfl, h0, hle, hK⟩ := hK
      obtain ⟨arr, e, e1, e2, e3, e4⟩ := h.row hO hb
      have hr := getD_of (d := []) h0
      have hl : (rows.getD i.toNat []).length = k' := e3 _ (List.mem_of_getElem? hr)
      refine many _ _ rfl (by rw [List.length_map, List.length_take, List.length_drop, hl]; omega) (fun j x hx => ?_) hK
      rw [List.getElem?_map, Option.map_eq_some_iff] at hx
      obtain ⟨c, hc, rfl⟩ := hx
      rw [List.getElem?_take] at hc
      split at hc
      · rw [List.getElem?_drop] at hc
        obtain ⟨u, hu, hru⟩ := e4 _ _ _ c hr hc
        exact ⟨u, by rw [add_lit, cell_of w e1, Nat.add_assoc]; exact hu, hru⟩
      · cases hc
    · rename_i k' ver rows hO
      obtain ⟨rfl, h0, hle, hK⟩ := hK
      obtain ⟨arr, e, e1, e2, e3, e4⟩ := h.tree hO hb
      have hr := getD_of (d := []) h0
      have hl : (rows.getD i.toNat []).length = k' := e3 _ (List.mem_of_getElem? hr)
      refine many _ _ rfl (by rw [avs_length, List.length_take, List.length_drop, hl]; omega) (fun j x hx => ?_) hK
      obtain ⟨c, hc, rfl⟩ := avs_get hx
      rw [List.getElem?_take] at hc
      split at hc
      · rw [List.getElem?_drop] at hc
        obtain ⟨u, F, c1, c2, c3, _⟩ := e4.cell e1 hr hc
        exact ⟨u, by rw [add_lit, Nat.add_assoc]; exact c1, av_ok h hO hb c1 hr hc c3⟩
      · cases hc
    · exact hK.elim
  · rename_i id ver i j k i' off
    split at hK
    · rename_i k0 ver' rows hO
      obtain ⟨rfl, hK⟩ := hK
      split at hK
      · rename_i k' rs hc
        obtain ⟨hk, h0, hle, hK⟩ := hK
        obtain ⟨b, arr, e, rfl, e1, e2, e3⟩ := h.srow hO ep hc (.inl rfl) hk h0
        have hr := getD_of (d := []) h0
        have hl : (rs.getD i'.toNat []).length = k := e2 _ (List.mem_of_getElem? hr)
        refine many _ _ rfl (by rw [List.length_map, List.length_take, List.length_drop, hl]; omega) (fun j2 x hx => ?_) hK
        rw [List.getElem?_map, Option.map_eq_some_iff] at hx
        obtain ⟨c2, hc2, rfl⟩ := hx
        rw [List.getElem?_take] at hc2
        split at hc2
        · rw [List.getElem?_drop] at hc2
          obtain ⟨u, F, hu, hot⟩ := e3 _ _ _ c2 hr hc2
          exact ⟨u, by rw [add_lit, cell_of w e1, Nat.add_assoc]; exact hu, ow_cell h hO ep hc hk hr hc2 (by rw [cell_of w e1]; exact hu) rfl⟩
        · cases hc2
      · rename_i k' rs hc
        obtain ⟨hk, h0, hle, hK⟩ := hK
        obtain ⟨b, arr, e, rfl, e1, e2, e3⟩ := h.srow hO ep hc (.inr rfl) hk h0
        have hr := getD_of (d := []) h0
        have hl : (rs.getD i'.toNat []).length = k := e2 _ (List.mem_of_getElem? hr)
        refine many _ _ rfl (by rw [List.length_map, List.length_take, List.length_drop, hl]; omega) (fun j2 x hx => ?_) hK
        rw [List.getElem?_map, Option.map_eq_some_iff] at hx
        obtain ⟨c2, hc2, rfl⟩ := hx
        rw [List.getElem?_take] at hc2
        split at hc2
        · rw [List.getElem?_drop] at hc2
          obtain ⟨u, F, hu, hot⟩ := e3 _ _ _ c2 hr hc2
          exact ⟨u, by rw [add_lit, cell_of w e1, Nat.add_assoc]; exact hu, av2_ok hot⟩
        · cases hc2
      · exact hK.elim
    · exact hK.elim
  · rename_i cs
    obtain ⟨ad, rfl, hc⟩ := ep
    obtain ⟨hle, hK⟩ := hK
    refine many _ _ rfl (by simp; omega) (fun j x hx => ?_) hK
    rw [List.getElem?_map, Option.map_eq_some_iff] at hx
    obtain ⟨c, hc', rfl⟩ := hx
    rw [List.getElem?_take] at hc'
    split at hc'
    · obtain ⟨_, u, hu, hr⟩ := hc j c hc'
      exact ⟨u, hu, hr⟩
    · cases hc'
  · exact hK.elim

end
end Go.Proofs.Ytenfgllkjgfjpaa
