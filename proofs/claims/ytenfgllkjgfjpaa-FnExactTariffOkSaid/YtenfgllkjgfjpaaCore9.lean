/- The abstract machine, part 9: make, literals, cuts, append, minimum and maximum, calls. -/
import Derived.Test.YtenfgllkjgfjpaaCore8
set_option linter.all false
namespace Go.Proofs.Ytenfgllkjgfjpaa
open Go.RowKit

section
variable {P : Program} {g : Ghost} {o : Oper} {s : St} {a : Act} {w : World} {blk : Nat → Option Nat} {K : St → Prop}

theorem madeCells_get {z : Array Value} {k n : Nat} (hz : z.size = k) {i j : Nat} (hi : i < n) (hj : j < k) : (madeCells z (n * k))[i * k + j]? = z[j]? := by
  have h1 : (i + 1) * k ≤ n * k := Nat.mul_le_mul_right _ hi
  rw [Nat.add_mul, Nat.one_mul] at h1
  have h2 : (i * k + j) % k = j := by rw [Nat.add_comm, Nat.add_mul_mod_self_right, Nat.mod_eq_of_lt hj]
  unfold madeCells
  simp [hz, h2, show i * k + j < n * k from by omega, getElem!_pos, hj]

theorem mks_ok (h : Repr g s a w blk) (hd : ∀ i, o.dst = some i → i < g.N) {t e : TypeId} {i : TypeInfo} {z : Value} {cs : List C} {p q : Operand} {xp xq : X} (ho : o.op = .makeSlice t p q) (ht : P.underlying t = some (.slice e)) (hi : P.info? e = some i) (hz : i.zero = some z)
    (hzs : zeroOks z.cells.toList cs = true) (hsz : z.cells.size = i.size) (hp : cx p = some xp) (hq : cx q = some xq) (hK : mksP i.size i.bytes cs s o.dst (s.ev xp) (s.ev xq) K) : OpOk P g o a w K := by
  have ep := h.ev hp; have eq := h.ev hq
  revert hK ep eq
  generalize s.ev xp = vp; generalize s.ev xq = vq
  intro hK ep eq
  unfold mksP at hK
  split at hK
  · rename_i n m
    obtain ⟨h0, h1, h2, hK⟩ := hK
    obtain ⟨e1, _⟩ := ep.int; obtain ⟨e2, i2⟩ := eq.int
    have hm : m ≤ 9223372036854775807 := i2.2
    have hr := run_make (P := P) w t e i z ht hi hz .i64 .i64 n m h0 h1 h2 hm
    obtain ⟨z1, z2⟩ := zeroOks_get hzs
    have z3 : cs.length = i.size := by rw [z1, Array.length_toList, hsz]
    refine new_gen h hd (v := .slice (some ⟨w.heap.size, 0, none⟩) n.toNat m.toNat) (arr := madeCells z.cells (m.toNat * i.size)) (e := e) (by simp [execOp, ho, e1, e2, hr]) ?_ ?_ hK
    · intro w' G' O' blk' KK hh
      refine .inr ⟨_, _, _, rfl, hh, ?_, fun r hr => by rw [(List.mem_replicate.1 hr).2]; exact z3, fun i2 r j c hr hc => ?_⟩
      · rw [size_madeCells, List.length_replicate]
        exact Nat.mul_le_mul_right _ (by omega)
      · have hi2 : i2 < n.toNat := by have := (List.getElem?_eq_some_iff.1 hr).1; simpa using this
        rw [List.getElem?_replicate, if_pos hi2] at hr
        cases hr
        obtain ⟨u, hu, hru⟩ := z2 j c hc
        have hj : j < i.size := by rw [← z3]; exact (List.getElem?_eq_some_iff.1 hc).1
        exact ⟨u, by rw [madeCells_get hsz (by omega) hj]; simpa using hu, zeroOk_ok hru⟩
    · intro d G' O' blk' hO hb hh
      exact ⟨_, hO, by simp, .inr ⟨_, _, _, _, hb, rfl, by omega, by unfold maxLen; omega, hh, by rw [size_madeCells]; exact Nat.le_refl _⟩⟩
  · exact hK.elim

theorem mm_ok (h : Repr g s a w blk) (hd : ∀ i, o.dst = some i → i < g.N) {f : Int → Int → Int} {op : Value → Value → Sem Value} {l : List Operand} {xs : List X} (hop : ∀ m n, op (.int .i64 m) (.int .i64 n) = pure (.int .i64 (f m n)))
    (hin : ∀ m n, inI m → inI n → inI (f m n))
    (hr : ∀ v vs, l.map a.eval = v :: vs → ∀ r, (vs.foldlM op v).run P w = .ok r w → (execOp a.eval o).run P w = .ok (.value r) w)
    (hx : cxs l = some xs) (hK : mmP f (xs.map s.ev) fun v => K (s.put o.dst v)) : OpOk P g o a w K := by
  obtain ⟨hl, hg⟩ := h.evs hx
  revert hK hl hg
  generalize xs.map s.ev = avs; generalize hvs : l.map a.eval = vs
  intro hK hl hg
  have key : ∀ (avs : List AV) (ns : List Int), intsOf avs = some ns → ∀ vs : List Value, vs.length = avs.length → (∀ (j : Nat) (x : AV), avs[j]? = some x → ∃ u, vs[j]? = some u ∧ RVs g s w blk u x) →
      vs = ns.map (fun n => Value.int .i64 n) ∧ ∀ n ∈ ns, inI n := by
    intro avs
    induction avs with
    | nil => intro ns hns vs hl _; cases hns; exact ⟨by simpa using hl, by simp⟩
    | cons x avs ih =>
      intro ns hns vs hl hg
      cases vs with
      | nil => simp at hl
      | cons v vs =>
        obtain ⟨u, hu, hru⟩ := hg 0 x rfl
        simp only [List.getElem?_cons_zero, Option.some.injEq] at hu
        subst hu
        cases x with
        | c y => cases y with
          | i n =>
            simp only [intsOf, Option.map_eq_some_iff] at hns
            obtain ⟨ns', h1, rfl⟩ := hns
            obtain ⟨h2, h3⟩ := ih ns' h1 vs (by simpa using hl) (fun j x hj => by simpa using hg (j + 1) x (by simpa using hj))
            obtain ⟨e, hb⟩ := hru.int
            exact ⟨by rw [e, h2]; rfl, by simpa using ⟨hb, h3⟩⟩
          | _ => simp [intsOf] at hns
        | _ => simp [intsOf] at hns
  unfold mmP at hK
  split at hK
  · rename_i n r hns
    obtain ⟨hvs', hb⟩ := key _ _ hns vs hl hg
    have fold : ∀ (r : List Int) (n : Int), inI n → (∀ m ∈ r, inI m) → ((r.map (fun n => Value.int .i64 n)).foldlM op (.int .i64 n)).run P w = .ok (.int .i64 (r.foldl f n)) w ∧ inI (r.foldl f n) := by
      intro r
      induction r with
      | nil => intro n hn _; exact ⟨rfl, hn⟩
      | cons m r ih =>
        intro n hn hr
        have := ih (f n m) (hin n m hn (hr m (by simp))) (fun q hq => hr q (by simp [hq]))
        simp only [List.map_cons, List.foldlM_cons, hop, List.foldl_cons, pure_bind]
        exact this
    have := fold r n (hb n (by simp)) (fun m hm => hb m (by simp [hm]))
    exact OpOk.val h hd (hr _ _ (by rw [hvs, hvs']; rfl) _ this.1) (.mkI this.2) hK
  · exact hK.elim

theorem mn_ok (h : Repr g s a w blk) (hd : ∀ i, o.dst = some i → i < g.N) {l : Array Operand} {ts : Array TypeId} {xs : List X} (ho : o.op = .call { callee := .builtin .min, args := l, argTypes := ts })
    (hx : cxs l.toList = some xs) (hK : mmP (fun x y => if y < x then y else x) (xs.map s.ev) fun v => K (s.put o.dst v)) : OpOk P g o a w K := by
  refine mm_ok h hd (op := Builtin.min2) (fun m n => rfl) (fun m n hm hn => by split <;> assumption) (fun v vs hv r hr => ?_) hx hK
  simp [execOp, ho, resolve, invoke, builtin, Builtin.min_, hv, hr]

theorem mx_ok (h : Repr g s a w blk) (hd : ∀ i, o.dst = some i → i < g.N) {l : Array Operand} {ts : Array TypeId} {xs : List X} (ho : o.op = .call { callee := .builtin .max, args := l, argTypes := ts })
    (hx : cxs l.toList = some xs) (hK : mmP (fun x y => if x < y then y else x) (xs.map s.ev) fun v => K (s.put o.dst v)) : OpOk P g o a w K := by
  refine mm_ok h hd (op := Builtin.max2) (fun m n => rfl) (fun m n hm hn => by split <;> assumption) (fun v vs hv r hr => ?_) hx hK
  simp [execOp, ho, resolve, invoke, builtin, Builtin.max_, hv, hr]

theorem run_callFunc {f : Nat} {fn : Func} (hf : P.funcs[f]? = some fn) (hb : fn.body.isSome = true) (hn : (fn.name != "runtime.NumGoroutine") = true) (args : Array Value) (w : World) :
    (callFunc f args).run P w = .ok (.enter f args) w := by
  have h1 : fn.name ≠ "runtime.NumGoroutine" := by simpa using hn
  have h2 : fn.body ≠ none := by intro e; simp [e] at hb
  simp [callFunc, hf, h1, h2]

theorem call_ok (h : Repr g s a w blk) (hd : ∀ i, o.dst = some i → i < g.N) {f : Nat} {fn : Func} {l : Array Operand} {ts : Array TypeId} {xs : List X} (ho : o.op = .call { callee := .value (.func f), args := l, argTypes := ts })
    (hf : P.funcs[f]? = some fn) (hb : fn.body.isSome = true) (hn : (fn.name != "runtime.NumGoroutine") = true)
    (hx : cxs l.toList = some xs) (hK : callP P f (xs.map s.ev) o.dst s K) : OpOk P g o a w K := by
  obtain ⟨hl, hg⟩ := h.evs hx
  have := hK g a w blk h hd (l.map a.eval) (by simpa using hl) (fun j x hj => by
    obtain ⟨u, hu, hr⟩ := hg j x hj
    exact ⟨u, by simpa using hu, hr⟩)
  refine ⟨.enter f (l.map a.eval), w, ?_, this⟩
  have e1 : a.eval (.func f) = .func (.func f) #[] #[] := rfl
  simp [execOp, ho, resolve, Deferred.ofValue, e1, invoke, run_callFunc hf hb hn]

end
end Go.Proofs.Ytenfgllkjgfjpaa
