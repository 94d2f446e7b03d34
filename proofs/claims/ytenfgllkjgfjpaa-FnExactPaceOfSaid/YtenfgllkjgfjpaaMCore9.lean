/- The abstract machine, part 9: new boxes, rows and literals, minimum and maximum, calls. -/
import Derived.Test.YtenfgllkjgfjpaaMCore8
set_option linter.all false
namespace Go.Proofs.Ytenfgllkjgfjpaa
open Go.RowKit

section
variable {P : Program} {g : Ghost} {o : Oper} {s : St} {a : Act} {w : World} {blk : Lay} {K : St → Prop}

theorem newRow_run (e : TypeId) (cells : Array Value) (w : World) : (newRow e cells).run P w = .ok ⟨w.heap.size, 0, none⟩ (w.alloc (.cells cells e)) := by
  simp [newRow]

/-- A new object, in a new block. -/
theorem new_gen (h : Repr g s a w blk) (hd : ∀ i, o.dst = some i → i < g.N) {o' : Obj} {V : Nat → AV} {v : Value} {arr : Array Value} {e : TypeId} {w1 : World}
    (hr : (execOp a.eval o).run P w1 = .ok (.value v) (w.alloc (.cells arr e)))
    (ok : ∀ w' G' O' blk', Keeps w w' (Good g s.objs blk w) G' s.objs O' blk blk' → w'.heap[w.heap.size]? = some (.cells arr e (0, 0)) → ObjOk w' G' O' blk' noF (some w.heap.size) o')
    (hv : ∀ (d : Nat) G' (O' : Nat → Obj) (blk' : Nat → Option Nat), O' d = o' → blk' d = some w.heap.size → (w.alloc (.cells arr e)).heap[w.heap.size]? = some (.cells arr e (0, 0)) → RV (w.alloc (.cells arr e)) G' O' blk' v (V d))
    (hK : newP s o.dst o' V K) : OpOk P g o a w1 K := by
  unfold newP at hK
  split at hK
  · rename_i d hdst
    obtain ⟨h0, hK⟩ := hK
    have := h.alloc (d := d) (ob_none h0) ok
    refine ⟨_, _, hr, _, blk.upd d (some w.heap.size) noF, hK, ?_⟩
    have hput := this.put (d := some d) (v := v) (x := V d) (by rw [← hdst]; exact hd) (hv d _ _ _ (by simp [upd]) (by rw [Lay.upd_root, if_pos rfl]) (heap_alloc_new w _))
    rw [hdst]
    exact hput
  · exact hK.elim

theorem box_ok (h : Repr g s a w blk) (hd : ∀ i, o.dst = some i → i < g.N) {t : TypeId} {n : Nat} {p : Operand} {xp : X} (ho : o.op = .box t p)
    (hp : cx p = some xp) (hK : boxP n s o.dst (s.ev xp) K) : OpOk P g o a w K := by
  have ep := h.ev hp
  obtain ⟨_, hok, hK⟩ := hK
  obtain ⟨h1, h2⟩ := cellsOf_ok ep hok
  refine new_gen (v := .pointer (some ⟨w.heap.size, 0, none⟩)) (arr := (a.eval p).cells) (e := t) h hd ?_ ?_ ?_ hK
  · simp [execOp, ho, Instr.box, newVar, newRow_run]
  · intro w' G' O' blk' KK hh
    exact ⟨_, _, _, rfl, hh, h1, fun j x hx => let ⟨u, hu, hr⟩ := h2 j x hx; ⟨u, by simpa using hu, hr.keep KK⟩⟩
  · intro d G' O' blk' hO hb _
    exact ⟨_, _, hO, hb, rfl⟩

theorem constAVs_get : ∀ {l : List Value} {ks : List Nat} {zs : List AV}, constAVs l ks = some zs → zs.length = l.length ∧ ∀ (j : Nat) (x : AV), zs[j]? = some x → ∃ v k, l[j]? = some v ∧ constAVk k v = some x
  | [], [], cs, h => by cases h; exact ⟨rfl, fun j c hj => by simp at hj⟩
  | x :: l, k :: ks, cs, h => by
    simp only [constAVs] at h
    split at h
    · rename_i c1 cs1 h1 h2
      cases h
      obtain ⟨hl, hg⟩ := constAVs_get h2
      refine ⟨by simp [hl], fun j c hj => ?_⟩
      cases j with
      | zero => simp at hj; subst hj; exact ⟨x, k, rfl, h1⟩
      | succ j => exact hg j c (by simpa using hj)
    · cases h
  | [], _ :: _, cs, h => by simp [constAVs] at h
  | _ :: _, [], cs, h => by simp [constAVs] at h

theorem constAV_ok1 {G : Nat → Prop} {O : Nat → Obj} {bl : Nat → Option Nat} {v : Value} {x : AV} (h : constAV v = some x) : RV1 w G O bl v x := by
  unfold constAV at h
  split at h
  · split at h
    · cases h; exact Rd.i ‹_›
    · cases h
  · split at h
    · rename_i n hn
      cases h
      show Rd _ _ _ _
      have : (Value.int .u8 n) = .int .u8 (n.toNat : Int) := by congr; omega
      rw [this]
      exact .u (by omega)
    · cases h
  · cases h; exact Rd.b
  · split at h
    · cases h; exact Rd.s ‹_›
    · cases h
  · cases h; exact rfl
  · cases h; trivial
  · cases h

theorem constAVk_ok1 {G : Nat → Prop} {O : Nat → Obj} {bl : Nat → Option Nat} {k : Nat} {v : Value} {x : AV} (h : constAVk k v = some x) : RV1 w G O bl v x := by
  unfold constAVk at h
  split at h
  · cases h; exact rfl
  · exact constAV_ok1 h

theorem alloc_ok (h : Repr g s a w blk) (hd : ∀ i, o.dst = some i → i < g.N) {t : TypeId} {i : TypeInfo} {z : Value} {zs : List AV} (ho : o.op = .alloc t) (hi : P.info? t = some i) (hz : i.zero = some z)
    {ks : List Nat} (hzs : constAVs z.cells.toList ks = some zs) (hK : newP s o.dst (.box zs) (fun d => .box d 0) K) : OpOk P g o a w K := by
  obtain ⟨h1, h2⟩ := constAVs_get hzs
  refine new_gen (v := .pointer (some ⟨w.heap.size, 0, none⟩)) (arr := z.cells) (e := t) h hd ?_ ?_ ?_ hK
  · simp [execOp, ho, Instr.alloc, zeroValue, typeInfo, hi, hz, newVar, newRow_run]
  · intro w' G' O' blk' KK hh
    exact ⟨_, _, _, rfl, hh, by simpa using h1.symm, fun j x hx => let ⟨u, k, hu, hr⟩ := h2 j x hx; ⟨u, by simpa using hu, constAVk_ok1 hr⟩⟩
  · intro d G' O' blk' hO hb _
    exact ⟨_, _, hO, hb, rfl⟩

theorem zeroOk_ok {G : Nat → Prop} {v : Value} {c : C} (h : zeroOk v c = true) : Rd w G v c := by
  unfold zeroOk at h
  split at h
  · simp at h; obtain ⟨rfl, rfl⟩ := h; exact .i ⟨by omega, by omega⟩
  · simp at h; obtain ⟨rfl, rfl⟩ := h; exact Rd.u (n := 0) (by decide)
  · simp at h; subst h; exact .b
  · simp at h; obtain ⟨rfl, rfl⟩ := h; exact .s (by simp)
  · simp at h; subst h
    exact .sl (fun _ _ => default) rfl (Nat.le_refl _) (by unfold maxLen; omega) (by simp) (by simp) (by simp) (by simp)
  · cases h

theorem zeroOks_get : ∀ {l : List Value} {cs : List C}, zeroOks l cs = true → cs.length = l.length ∧ ∀ (j : Nat) (c : C), cs[j]? = some c → ∃ v, l[j]? = some v ∧ zeroOk v c = true
  | [], [], h => ⟨rfl, fun j c hj => by simp at hj⟩
  | x :: l, c :: cs, h => by
    simp only [zeroOks, Bool.and_eq_true] at h
    obtain ⟨hl, hg⟩ := zeroOks_get h.2
    refine ⟨by simp [hl], fun j c hj => ?_⟩
    cases j with
    | zero => simp at hj; subst hj; exact ⟨x, rfl, h.1⟩
    | succ j => exact hg j c (by simpa using hj)

theorem zeroC_ok {v : Value} {k : Nat} {c : C} (h : zeroC v k = some c) : zeroOk v c = true := by
  unfold zeroC at h
  split at h
  · split at h
    · rename_i e; cases h; simp [zeroOk, e]
    · cases h
  · split at h
    · rename_i e; cases h; simp [zeroOk, e]
    · cases h
  · split at h
    · cases h
    · rename_i b e; cases h; simp at e; simp [zeroOk, e]
  · split at h
    · rename_i e; cases h; simp [zeroOk, e]
    · cases h
  · cases h; rfl
  · cases h

theorem zeroCs_ok : ∀ {l : List Value} {ks : List Nat} {cs : List C}, zeroCs l ks = some cs → zeroOks l cs = true
  | [], [], cs, h => by cases h; rfl
  | v :: l, k :: ks, cs, h => by
    simp only [zeroCs] at h
    split at h
    · rename_i c1 cs1 h1 h2
      cases h
      simp [zeroOks, zeroC_ok h1, zeroCs_ok h2]
    · cases h

theorem flat_get {α : Type} {k n : Nat} {z : List α} (hz : z.length = k) {i j : Nat} {c : α} (hi : i < n) (hj : z[j]? = some c) : (List.replicate n z).flatten[i * k + j]? = some c := by
  induction n generalizing i with
  | zero => omega
  | succ n ih =>
    rw [List.replicate_succ, List.flatten_cons]
    have hjk : j < k := by rw [← hz]; exact (List.getElem?_eq_some_iff.1 hj).1
    cases i with
    | zero => rw [Nat.zero_mul, Nat.zero_add, List.getElem?_append_left (by omega)]; exact hj
    | succ i =>
      rw [List.getElem?_append_right (by rw [hz, Nat.add_mul]; omega), hz, Nat.add_mul, Nat.one_mul]
      rw [show i * k + k + j - k = i * k + j from by omega]
      exact ih (by omega)

theorem alloca_ok (h : Repr g s a w blk) (hd : ∀ i, o.dst = some i → i < g.N) {t : TypeId} {i : TypeInfo} {z : Value} {k n : Nat} {cs : List C} (ho : o.op = .alloc t) (hi : P.info? t = some i) (hz : i.zero = some z)
    (hzs : zeroOks z.cells.toList (List.replicate n cs).flatten = true) (hk : cs.length = k) (hK : newP s o.dst (.row k (List.replicate n cs)) (fun d => .row d k 0 0) K) : OpOk P g o a w K := by
  obtain ⟨h1, h2⟩ := zeroOks_get hzs
  refine new_gen (v := .pointer (some ⟨w.heap.size, 0, none⟩)) (arr := z.cells) (e := t) h hd ?_ ?_ ?_ hK
  · simp [execOp, ho, Instr.alloc, zeroValue, typeInfo, hi, hz, newVar, newRow_run]
  · intro w' G' O' blk' KK hh
    refine .inr ⟨_, _, _, rfl, hh, ?_, fun r hr => by rw [(List.mem_replicate.1 hr).2]; exact hk, fun i2 r j c hr hc => ?_⟩
    · have : (List.replicate n cs).flatten.length = n * k := by simp [hk]
      rw [List.length_replicate]
      rw [this, Array.length_toList] at h1
      omega
    · have hi2 : i2 < n := by have := (List.getElem?_eq_some_iff.1 hr).1; simpa using this
      rw [List.getElem?_replicate, if_pos hi2] at hr
      cases hr
      obtain ⟨u, hu, hr⟩ := h2 _ c (flat_get hk hi2 hc)
      exact ⟨u, by simpa using hu, zeroOk_ok hr⟩
  · intro d G' O' blk' hO hb _
    exact ⟨_, _, by rw [hO]; rfl, hb, by simp⟩

theorem madeCells_get {z : Array Value} {k n : Nat} (hz : z.size = k) {i j : Nat} (hi : i < n) (hj : j < k) : (madeCells z (n * k))[i * k + j]? = z[j]? := by
  have h1 : (i + 1) * k ≤ n * k := Nat.mul_le_mul_right _ hi
  rw [Nat.add_mul, Nat.one_mul] at h1
  have h2 : (i * k + j) % k = j := by rw [Nat.add_comm, Nat.add_mul_mod_self_right, Nat.mod_eq_of_lt hj]
  unfold madeCells
  simp [hz, h2, show i * k + j < n * k from by omega, getElem!_pos, hj]

theorem mks_ok (h : Repr g s a w blk) (hd : ∀ i, o.dst = some i → i < g.N) {t e : TypeId} {i : TypeInfo} {z : Value} {cs : List C} {p q : Operand} {xp xq : X} (ho : o.op = .makeSlice t p q) (ht : P.underlying t = some (.slice e)) (hi : P.info? e = some i) (hz : i.zero = some z)
    (hzs : zeroOks z.cells.toList cs = true) (hsz : z.cells.size = i.size) (hp : cx p = some xp) (hq : cx q = some xq) (hK : mksP i.size i.bytes cs s o.dst (s.ev xp) (s.ev xq) K) : OpOk P g o a w K := by
  have ep := h.ev hp; have eq := h.ev hq
  revert hK ep eq
  generalize s.ev xp = vp; generalize s.ev xq = vq
  intro hK ep eq
  unfold mksP at hK
  split at hK
  · rename_i n m
    obtain ⟨h0, h1, h2, hK⟩ := hK
    obtain ⟨e1, _⟩ := ep.int; obtain ⟨e2, i2⟩ := eq.int
    have hm : m ≤ 9223372036854775807 := i2.2
    have hr := run_make (P := P) w t e i z ht hi hz .i64 .i64 n m h0 h1 h2 hm
    obtain ⟨z1, z2⟩ := zeroOks_get hzs
    have z3 : cs.length = i.size := by rw [z1, Array.length_toList, hsz]
    refine new_gen h hd (v := .slice (some ⟨w.heap.size, 0, none⟩) n.toNat m.toNat) (arr := madeCells z.cells (m.toNat * i.size)) (e := e) (by simp [execOp, ho, e1, e2, hr]) ?_ ?_ hK
    · intro w' G' O' blk' KK hh
      refine .inr ⟨_, _, _, rfl, hh, ?_, fun r hr => by rw [(List.mem_replicate.1 hr).2]; exact z3, fun i2 r j c hr hc => ?_⟩
      · rw [size_madeCells, List.length_replicate]
        exact Nat.mul_le_mul_right _ (by omega)
      · have hi2 : i2 < n.toNat := by have := (List.getElem?_eq_some_iff.1 hr).1; simpa using this
        rw [List.getElem?_replicate, if_pos hi2] at hr
        cases hr
        obtain ⟨u, hu, hru⟩ := z2 j c hc
        have hj : j < i.size := by rw [← z3]; exact (List.getElem?_eq_some_iff.1 hc).1
        exact ⟨u, by rw [madeCells_get hsz (by omega) hj]; simpa using hu, zeroOk_ok hru⟩
    · intro d G' O' blk' hO hb hh
      exact ⟨_, by rw [hO]; rfl, by simp, .inr ⟨_, _, _, _, hb, rfl, by omega, by unfold maxLen; omega, hh, by rw [size_madeCells]; exact Nat.le_refl _⟩⟩
  · exact hK.elim

theorem mm_ok (h : Repr g s a w blk) (hd : ∀ i, o.dst = some i → i < g.N) {f : Int → Int → Int} {op : Value → Value → Sem Value} {l : List Operand} {xs : List X} (hop : ∀ m n, op (.int .i64 m) (.int .i64 n) = pure (.int .i64 (f m n)))
    (hin : ∀ m n, inI m → inI n → inI (f m n))
    (hr : ∀ v vs, l.map a.eval = v :: vs → ∀ r, (vs.foldlM op v).run P w = .ok r w → (execOp a.eval o).run P w = .ok (.value r) w)
    (hx : cxs l = some xs) (hK : mmP f (xs.map s.ev) fun v => K (s.put o.dst v)) : OpOk P g o a w K := by
  obtain ⟨hl, hg⟩ := h.evs hx
  revert hK hl hg
  generalize xs.map s.ev = avs; generalize hvs : l.map a.eval = vs
  intro hK hl hg
  have key : ∀ (avs : List AV) (ns : List Int), intsOf avs = some ns → ∀ vs : List Value, vs.length = avs.length → (∀ (j : Nat) (x : AV), avs[j]? = some x → ∃ u, vs[j]? = some u ∧ RVs g s w blk u x) →
      vs = ns.map (fun n => Value.int .i64 n) ∧ ∀ n ∈ ns, inI n := by
    intro avs
    induction avs with
    | nil => intro ns hns vs hl _; cases hns; exact ⟨by simpa using hl, by simp⟩
    | cons x avs ih =>
      intro ns hns vs hl hg
      cases vs with
      | nil => simp at hl
      | cons v vs =>
        obtain ⟨u, hu, hru⟩ := hg 0 x rfl
        simp only [List.getElem?_cons_zero, Option.some.injEq] at hu
        subst hu
        cases x with
        | c y => cases y with
          | i n =>
            simp only [intsOf, Option.map_eq_some_iff] at hns
            obtain ⟨ns', h1, rfl⟩ := hns
            obtain ⟨h2, h3⟩ := ih ns' h1 vs (by simpa using hl) (fun j x hj => by simpa using hg (j + 1) x (by simpa using hj))
            obtain ⟨e, hb⟩ := hru.int
            exact ⟨by rw [e, h2]; rfl, by simpa using ⟨hb, h3⟩⟩
          | _ => simp [intsOf] at hns
        | _ => simp [intsOf] at hns
  unfold mmP at hK
  split at hK
  · rename_i n r hns
    obtain ⟨hvs', hb⟩ := key _ _ hns vs hl hg
    have fold : ∀ (r : List Int) (n : Int), inI n → (∀ m ∈ r, inI m) → ((r.map (fun n => Value.int .i64 n)).foldlM op (.int .i64 n)).run P w = .ok (.int .i64 (r.foldl f n)) w ∧ inI (r.foldl f n) := by
      intro r
      induction r with
      | nil => intro n hn _; exact ⟨rfl, hn⟩
      | cons m r ih =>
        intro n hn hr
        have := ih (f n m) (hin n m hn (hr m (by simp))) (fun q hq => hr q (by simp [hq]))
        simp only [List.map_cons, List.foldlM_cons, hop, List.foldl_cons, pure_bind]
        exact this
    have := fold r n (hb n (by simp)) (fun m hm => hb m (by simp [hm]))
    exact OpOk.val h hd (hr _ _ (by rw [hvs, hvs']; rfl) _ this.1) (.mkI this.2) hK
  · exact hK.elim

theorem mn_ok (h : Repr g s a w blk) (hd : ∀ i, o.dst = some i → i < g.N) {l : Array Operand} {ts : Array TypeId} {xs : List X} (ho : o.op = .call { callee := .builtin .min, args := l, argTypes := ts })
    (hx : cxs l.toList = some xs) (hK : mmP (fun x y => if y < x then y else x) (xs.map s.ev) fun v => K (s.put o.dst v)) : OpOk P g o a w K := by
  refine mm_ok h hd (op := Builtin.min2) (fun m n => rfl) (fun m n hm hn => by split <;> assumption) (fun v vs hv r hr => ?_) hx hK
  simp [execOp, ho, resolve, invoke, builtin, Builtin.min_, hv, hr]

theorem mx_ok (h : Repr g s a w blk) (hd : ∀ i, o.dst = some i → i < g.N) {l : Array Operand} {ts : Array TypeId} {xs : List X} (ho : o.op = .call { callee := .builtin .max, args := l, argTypes := ts })
    (hx : cxs l.toList = some xs) (hK : mmP (fun x y => if x < y then y else x) (xs.map s.ev) fun v => K (s.put o.dst v)) : OpOk P g o a w K := by
  refine mm_ok h hd (op := Builtin.max2) (fun m n => rfl) (fun m n hm hn => by split <;> assumption) (fun v vs hv r hr => ?_) hx hK
  simp [execOp, ho, resolve, invoke, builtin, Builtin.max_, hv, hr]

theorem run_callFunc {f : Nat} {fn : Func} (hf : P.funcs[f]? = some fn) (hb : fn.body.isSome = true) (hn : (fn.name != "runtime.NumGoroutine") = true) (args : Array Value) (w : World) :
    (callFunc f args).run P w = .ok (.enter f args) w := by
  have h1 : fn.name ≠ "runtime.NumGoroutine" := by simpa using hn
  have h2 : fn.body ≠ none := by intro e; simp [e] at hb
  simp [callFunc, hf, h1, h2]

theorem call_ok (h : Repr g s a w blk) (hd : ∀ i, o.dst = some i → i < g.N) {f : Nat} {fn : Func} {l : Array Operand} {ts : Array TypeId} {xs : List X} (ho : o.op = .call { callee := .value (.func f), args := l, argTypes := ts })
    (hf : P.funcs[f]? = some fn) (hb : fn.body.isSome = true) (hn : (fn.name != "runtime.NumGoroutine") = true)
    (hx : cxts P ts.toList l.toList = some xs ∨ cxs l.toList = some xs) (hK : callP P f (xs.map s.ev) o.dst s K) : OpOk P g o a w K := by
  obtain ⟨hl, hg⟩ : (l.toList.map a.eval).length = (xs.map s.ev).length ∧ ∀ (j : Nat) (x : AV), (xs.map s.ev)[j]? = some x → ∃ u, (l.toList.map a.eval)[j]? = some u ∧ RVs g s w blk u x := by
    rcases hx with hx | hx
    · exact h.evts hx
    · exact h.evs hx
  have := hK g a w blk h hd (l.map a.eval) (by simpa using hl) (fun j x hj => by
    obtain ⟨u, hu, hr⟩ := hg j x hj
    exact ⟨u, by simpa using hu, hr⟩)
  refine ⟨.enter f (l.map a.eval), w, ?_, this⟩
  have e1 : a.eval (.func f) = .func (.func f) #[] #[] := rfl
  simp [execOp, ho, resolve, Deferred.ofValue, e1, invoke, run_callFunc hf hb hn]

theorem callv_ok (h : Repr g s a w blk) (hd : ∀ i, o.dst = some i → i < g.N) {q : Operand} {xq : X} {l : Array Operand} {ts : Array TypeId} {xs : List X} (ho : o.op = .call { callee := .value q, args := l, argTypes := ts })
    (hq : cx q = some xq) (hx : cxs l.toList = some xs) (hK : callvP P (s.ev xq) (xs.map s.ev) o.dst s K) : OpOk P g o a w K := by
  obtain ⟨hl, hg⟩ := h.evs hx
  have eq := h.ev hq
  unfold callvP at hK
  split at hK
  · rename_i f cs he
    rw [he] at eq
    obtain ⟨⟨fn, hf, hb, hn⟩, hK⟩ := hK
    obtain ⟨arr, hfv, hs, hc⟩ := eq
    have := hK g a w blk h hd (l.map a.eval ++ arr) (by simp at hl; simp [hs, hl]) (fun j x hj => by
      by_cases hlt : j < (xs.map s.ev).length
      · rw [List.getElem?_append_left hlt] at hj
        obtain ⟨u, hu, hr⟩ := hg j x hj
        refine ⟨u, ?_, hr⟩
        rw [Array.getElem?_append_left (by simp at hl hlt ⊢; omega)]
        simpa using hu
      · rw [List.getElem?_append_right (by omega)] at hj
        obtain ⟨u, hu, hr⟩ := hc _ x hj
        refine ⟨u, ?_, RVs.of1 hr⟩
        rw [Array.getElem?_append_right (by simp at hl hlt ⊢; omega)]
        rw [← hu]; congr 1; simp at hl ⊢; omega)
    refine ⟨.enter f (l.map a.eval ++ arr), w, ?_, this⟩
    simp [execOp, ho, resolve, Deferred.ofValue, hfv, invoke, run_callFunc hf hb hn]
  · exact hK.elim

end
end Go.Proofs.Ytenfgllkjgfjpaa
