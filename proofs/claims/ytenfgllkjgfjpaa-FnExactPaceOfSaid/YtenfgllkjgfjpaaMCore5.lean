/- The abstract machine, part 5: instructions that yield a value and leave memory alone. -/
import Derived.Test.YtenfgllkjgfjpaaMCore4
set_option linter.all false
namespace Go.Proofs.Ytenfgllkjgfjpaa
open Go.RowKit

section
variable {P : Program} {g : Ghost} {o : Oper} {s : St} {a : Act} {w : World} {blk : Lay} {K : St → Prop}

theorem mv_ok (h : Repr g s a w blk) (hd : ∀ i, o.dst = some i → i < g.N) {y : Operand} {x : X} (ho : o.op = .move y ∨ o.op = .assign y) (hx : cxt P o.type y = some x) (hK : K (s.put o.dst (s.ev x))) : OpOk P g o a w K := by
  refine OpOk.val h hd (v := a.eval y) ?_ (h.evt hx) hK
  rcases ho with ho | ho <;> simp [execOp, ho]

theorem pick_ok (h : Repr g s a w blk) (hd : ∀ i, o.dst = some i → i < g.N) {c p q : Operand} {xc xp xq : X} (ho : o.op = .pick c p q) (hc : cx c = some xc) (hp : cx p = some xp) (hq : cx q = some xq)
    (hK : pickP (s.ev xc) (s.ev xp) (s.ev xq) fun v => K (s.put o.dst v)) : OpOk P g o a w K := by
  have ec := h.ev hc; have ep := h.ev hp; have eq := h.ev hq
  revert hK ec ep eq
  generalize s.ev xc = vc; generalize s.ev xp = vp; generalize s.ev xq = vq
  intro hK ec ep eq
  unfold pickP at hK
  split at hK
  · rename_i t
    have e1 := ec.bool
    split at hK
    · rename_i x y
      have e2 := ep.bool; have e3 := eq.bool
      refine OpOk.val h hd (v := .bool (cond t x y)) ?_ .mkB hK
      cases t <;> simp [execOp, ho, e1, e2, e3, asBool]
    · cases t
      · refine OpOk.val h hd (v := a.eval q) ?_ eq (hK.2 rfl)
        simp [execOp, ho, e1, asBool]
      · refine OpOk.val h hd (v := a.eval p) ?_ ep (hK.1 rfl)
        simp [execOp, ho, e1, asBool]
  · exact hK.elim

theorem bin_ok (h : Repr g s a w blk) (hd : ∀ i, o.dst = some i → i < g.N) {op : BinOp} {t t' : TypeId} {p q : Operand} {xp xq : X} (ho : o.op = .binOp op t p q t') (hp : cx p = some xp) (hq : cx q = some xq)
    (hK : binP op (s.ev xp) (s.ev xq) fun v => K (s.put o.dst v)) : OpOk P g o a w K := by
  have ep := h.ev hp; have eq := h.ev hq
  revert hK ep eq
  generalize s.ev xp = vp; generalize s.ev xq = vq
  intro hK ep eq
  unfold binP at hK
  split at hK
  · rename_i m n
    obtain ⟨e1, i1⟩ := ep.int; obtain ⟨e2, i2⟩ := eq.int
    unfold binI at hK
    split at hK
    · exact OpOk.val h hd (v := .int .i64 (m + n)) (by simp [execOp, ho, e1, e2, eqGuard, binOp, Op.intArith, wrap_inI hK.1]) (.mkI hK.1) hK.2
    · exact OpOk.val h hd (v := .int .i64 (m - n)) (by simp [execOp, ho, e1, e2, eqGuard, binOp, Op.intArith, wrap_inI hK.1]) (.mkI hK.1) hK.2
    · exact OpOk.val h hd (v := .int .i64 (m * n)) (by simp [execOp, ho, e1, e2, eqGuard, binOp, Op.intArith, wrap_inI hK.1]) (.mkI hK.1) hK.2
    · exact OpOk.val h hd (v := .int .i64 (m.tdiv n)) (by simp [execOp, ho, e1, e2, eqGuard, binOp, Op.intDiv, hK.1, wrap_inI hK.2.1]) (.mkI hK.2.1) hK.2.2
    · exact OpOk.val h hd (v := .int .i64 (m.tmod n)) (by simp [execOp, ho, e1, e2, eqGuard, binOp, Op.intDiv, hK.1]) (.mkI hK.2.1) hK.2.2
    · exact OpOk.val h hd (v := .bool (decide (m = n))) (by simp [execOp, ho, e1, e2, eqGuard, binOp, Op.intCmp]; rfl) .mkB hK
    · exact OpOk.val h hd (v := .bool (!decide (m = n))) (by simp [execOp, ho, e1, e2, eqGuard, binOp, Op.intCmp]; rfl) .mkB hK
    · exact OpOk.val h hd (v := .bool (decide (m < n))) (by simp [execOp, ho, e1, e2, eqGuard, binOp, Op.intCmp]) .mkB hK
    · exact OpOk.val h hd (v := .bool (decide (m ≤ n))) (by simp [execOp, ho, e1, e2, eqGuard, binOp, Op.intCmp]) .mkB hK
    · exact OpOk.val h hd (v := .bool (decide (n < m))) (by simp [execOp, ho, e1, e2, eqGuard, binOp, Op.intCmp]) .mkB hK
    · exact OpOk.val h hd (v := .bool (decide (n ≤ m))) (by simp [execOp, ho, e1, e2, eqGuard, binOp, Op.intCmp]) .mkB hK
    · exact hK.elim
  · exact hK.elim

theorem run_equalIn_bool (w : World) (d : Nat) {t : TypeId} (ht : P.underlying t = some .bool) (m n : Bool) : (Op.equalIn (d + 1) t (.bool m) (.bool n)).run P w = .ok (m == n) w := by
  simp [Op.equalIn, run_underlying ht]
theorem run_eql_bool (w : World) {t : TypeId} (ht : P.underlying t = some .bool) (m n : Bool) : (binOp .eql t (.bool m) (.bool n)).run P w = .ok (.bool (m == n)) w := by
  simp only [binOp]
  simp [Op.equal, Op.maxDepth, run_equalIn_bool w 9999 ht m n]
theorem run_neq_bool (w : World) {t : TypeId} (ht : P.underlying t = some .bool) (m n : Bool) : (binOp .neq t (.bool m) (.bool n)).run P w = .ok (.bool (!(m == n))) w := by
  simp only [binOp]
  simp [Op.equal, Op.maxDepth, run_equalIn_bool w 9999 ht m n]
theorem run_equalIn_slice_nil' (w : World) (d : Nat) {t e : TypeId} (ht : P.underlying t = some (.slice e)) (ad : Option Addr) (n c : Nat) : (Op.equalIn (d + 1) t (.slice ad n c) (.slice none 0 0)).run P w = .ok ad.isNone w := by
  cases ad <;> simp [Op.equalIn, run_underlying ht]
theorem run_eql_slice_nil' (w : World) {t e : TypeId} (ht : P.underlying t = some (.slice e)) (ad : Option Addr) (n c : Nat) : (binOp .eql t (.slice ad n c) (.slice none 0 0)).run P w = .ok (.bool ad.isNone) w := by
  simp only [binOp]
  simp [Op.equal, Op.maxDepth, run_equalIn_slice_nil' w 9999 ht ad n c]

theorem run_eqGuard_bool (w : World) (op : BinOp) (t : TypeId) (x y : Operand) (m n : Bool) : (eqGuard op t x y (.bool m) (.bool n)).run P w = .ok () w := by
  unfold eqGuard; split <;> rfl
theorem run_eqGuard_slice (w : World) (op : BinOp) (t : TypeId) (x y : Operand) (m m' : Option Addr) (n c n' c' : Nat) : (eqGuard op t x y (.slice m n c) (.slice m' n' c')).run P w = .ok () w := by
  unfold eqGuard; split <;> rfl

theorem beq_ok (h : Repr g s a w blk) (hd : ∀ i, o.dst = some i → i < g.N) {neg : Bool} {t t' : TypeId} {p q : Operand} {xp xq : X} (ho : o.op = .binOp (if neg then .neq else .eql) t p q t') (ht : P.underlying t = some .bool)
    (hp : cx p = some xp) (hq : cx q = some xq) (hK : beqP neg (s.ev xp) (s.ev xq) fun v => K (s.put o.dst v)) : OpOk P g o a w K := by
  have ep := h.ev hp; have eq := h.ev hq
  revert hK ep eq
  generalize s.ev xp = vp; generalize s.ev xq = vq
  intro hK ep eq
  unfold beqP at hK
  split at hK
  · rename_i m n
    have e1 := ep.bool; have e2 := eq.bool
    refine OpOk.val h hd (v := .bool (if neg then !decide (m = n) else decide (m = n))) ?_ .mkB hK
    cases neg
    · simp only [execOp, ho, e1, e2, run_eqGuard_bool, Sem.run_bind, Sem.run_pure, Result.andThen_ok, run_eql_bool w ht, if_false, Bool.false_eq_true]
      cases m <;> cases n <;> rfl
    · simp only [execOp, ho, e1, e2, run_eqGuard_bool, Sem.run_bind, Sem.run_pure, Result.andThen_ok, run_neq_bool w ht, if_true]
      cases m <;> cases n <;> rfl
  · exact hK.elim

theorem isn_ok (h : Repr g s a w blk) (hd : ∀ i, o.dst = some i → i < g.N) {t t' e : TypeId} {p : Operand} {xp : X} (ho : o.op = .binOp .eql t p (.const (.slice none 0 0)) t') (ht : P.underlying t = some (.slice e))
    (hp : cx p = some xp) (hK : isnP (s.ev xp) fun v => K (s.put o.dst v)) : OpOk P g o a w K := by
  have ep := h.ev hp
  have run : ∀ ad n c, a.eval p = .slice ad n c → (execOp a.eval o).run P w = .ok (.value (.bool ad.isNone)) w := by
    intro ad n c e1
    have e2 : a.eval (.const (.slice none 0 0)) = .slice none 0 0 := rfl
    simp only [execOp, ho, e1, e2, run_eqGuard_slice, Sem.run_bind, Sem.run_pure, Result.andThen_ok, run_eql_slice_nil' w ht]
  revert hK ep run
  generalize s.ev xp = vp; generalize a.eval p = v
  intro hK ep run
  unfold isnP at hK
  split at hK
  · rename_i k rows
    have hr := ep.c
    cases hr with
    | sl vals h1 h2 h3 h4 h5 h6 h7 =>
      rename_i ad len cap
      refine OpOk.val h hd (run _ _ _ rfl) .mkB (hK _ ?_)
      intro hn
      cases ad with
      | some _ => simp at hn
      | none =>
        have : ¬ 0 < len := fun hl => by simpa using h5 hl
        exact List.eq_nil_of_length_eq_zero (by omega)
  · cases ep
    exact OpOk.val h hd (run _ _ _ rfl) .mkB hK
  · rename_i id k n
    obtain ⟨m, _, _, hv⟩ := ep
    rcases hv with ⟨_, rfl, _, rfl⟩ | ⟨b, cap, arr, e, _, rfl, _⟩
    · exact OpOk.val h hd (run _ _ _ rfl) .mkB (hK _ (fun _ => rfl))
    · exact OpOk.val h hd (run _ _ _ rfl) .mkB (hK _ (fun e => by cases e))
  · exact hK.elim

theorem not_ok (h : Repr g s a w blk) (hd : ∀ i, o.dst = some i → i < g.N) {t : TypeId} {p : Operand} {xp : X} (ho : o.op = .unOp .not t p)
    (hp : cx p = some xp) (hK : notP (s.ev xp) fun v => K (s.put o.dst v)) : OpOk P g o a w K := by
  have ep := h.ev hp
  revert hK ep
  generalize s.ev xp = vp
  intro hK ep
  unfold notP at hK
  split at hK
  · rename_i m
    have e1 := ep.bool
    exact OpOk.val h hd (v := .bool !m) (by simp [execOp, ho, e1, Op.unary]) .mkB hK
  · exact hK.elim

theorem neg_ok (h : Repr g s a w blk) (hd : ∀ i, o.dst = some i → i < g.N) {t : TypeId} {p : Operand} {xp : X} (ho : o.op = .unOp .neg t p)
    (hp : cx p = some xp) (hK : negP (s.ev xp) fun v => K (s.put o.dst v)) : OpOk P g o a w K := by
  have ep := h.ev hp
  revert hK ep
  generalize s.ev xp = vp
  intro hK ep
  unfold negP at hK
  split at hK
  · rename_i m
    obtain ⟨e1, i1⟩ := ep.int
    exact OpOk.val h hd (v := .int .i64 (-m)) (by simp [execOp, ho, e1, Op.unary, Op.intArith, wrap_inI hK.1]) (.mkI hK.1) hK.2
  · exact hK.elim

theorem ext_ok (h : Repr g s a w blk) (hd : ∀ i, o.dst = some i → i < g.N) {i : Nat} {p : Operand} {xp : X} (ho : o.op = .extract p i)
    (hp : cx p = some xp) (hK : extP i (s.ev xp) fun v => K (s.put o.dst v)) : OpOk P g o a w K := by
  have ep := h.ev hp
  revert hK ep
  generalize s.ev xp = vp
  intro hK ep
  unfold extP at hK
  split at hK
  · rename_i l
    split at hK
    · rename_i x hx
      obtain ⟨arr, e, hs, hu⟩ := ep
      obtain ⟨u, hu, hr⟩ := hu i x hx
      exact OpOk.val h hd (v := u) (by simp [execOp, ho, e, Instr.extract, hu]) (.of2 hr) hK
    · exact hK.elim
  · exact hK.elim

theorem asInt_i64 (n : Int) (w : World) : (asIntOf (.int .i64 n)).run P w = .ok (.i64, n) w := rfl

theorem ixs_ok (h : Repr g s a w blk) (hd : ∀ i, o.dst = some i → i < g.N) {t : TypeId} {p i : Operand} {xp xi : X} (ho : o.op = .index t p i) (ht : P.underlying t = some .string)
    (hp : cx p = some xp) (hi : cx i = some xi) (hK : ixsP (s.ev xp) (s.ev xi) fun v => K (s.put o.dst v)) : OpOk P g o a w K := by
  have ep := h.ev hp; have ei := h.ev hi
  revert hK ep ei
  generalize s.ev xp = vp; generalize s.ev xi = vi
  intro hK ep ei
  unfold ixsP at hK
  split at hK
  · rename_i bs n
    obtain ⟨e1, _⟩ := ep.str; obtain ⟨e2, i2⟩ := ei.int
    obtain ⟨h0, h1, hK⟩ := hK
    have hn : n.toNat < bs.size := by omega
    have hg : bs[n.toNat]? = some (bs[n.toNat]'hn) := getElem?_pos bs n.toNat hn
    rw [hg] at hK
    refine OpOk.val h hd (v := .int .u8 (bs[n.toNat]'hn).toNat) ?_ (.mk (.u (by have := (bs[n.toNat]'hn).toNat_lt; simp; omega))) hK
    simp [execOp, ho, e1, e2, Instr.index, asIntOf, run_underlying ht, h0, hg]
  · exact hK.elim

theorem slen_ok (h : Repr g s a w blk) (hd : ∀ i, o.dst = some i → i < g.N) {t : TypeId} {p : Operand} {xp : X} (ho : o.op = .call { callee := .builtin .len, args := #[p], argTypes := #[t] }) (ht : P.underlying t = some .string)
    (hp : cx p = some xp) (hK : slenP (s.ev xp) fun v => K (s.put o.dst v)) : OpOk P g o a w K := by
  have ep := h.ev hp
  revert hK ep
  generalize s.ev xp = vp
  intro hK ep
  unfold slenP at hK
  split at hK
  · rename_i bs
    obtain ⟨e1, hs⟩ := ep.str
    refine OpOk.val h hd (v := .int .i64 bs.size) ?_ (.mkI (by unfold maxLen at hs; constructor <;> omega)) (hK hs)
    simp [execOp, ho, resolve, invoke, builtin, e1, Builtin.len_, run_underlying ht, goInt]
  · exact hK.elim

theorem cap_ok (h : Repr g s a w blk) (hd : ∀ i, o.dst = some i → i < g.N) {t e : TypeId} {p : Operand} {xp : X} (ho : o.op = .call { callee := .builtin .cap, args := #[p], argTypes := #[t] }) (ht : P.underlying t = some (.slice e))
    (hp : cx p = some xp) (hK : capP (s.ev xp) fun v => K (s.put o.dst v)) : OpOk P g o a w K := by
  have ep := h.ev hp
  have run : ∀ ad n c, a.eval p = .slice ad n c → (execOp a.eval o).run P w = .ok (.value (.int .i64 c)) w := by
    intro ad n c e1
    simp [execOp, ho, resolve, invoke, builtin, e1, Builtin.cap_, run_underlying ht, goInt]
  revert hK ep run
  generalize s.ev xp = vp; generalize a.eval p = v
  intro hK ep run
  unfold capP at hK
  split at hK
  · cases ep
    exact OpOk.val h hd (run _ _ _ rfl) (.mkI (by constructor <;> omega)) hK
  · obtain ⟨ad, n, rfl, hr⟩ := ep
    cases hr with
    | sl vals h1 h2 h3 h4 h5 h6 h7 =>
      subst h1
      exact OpOk.val h hd (run _ _ _ rfl) (.mkI (by unfold maxLen at h3; constructor <;> omega)) (hK h3)
  · cases ep.c with
    | sl vals h1 h2 h3 h4 h5 h6 h7 =>
      exact OpOk.val h hd (run _ _ _ rfl) (.mkI (by unfold maxLen at h3; constructor <;> omega)) (hK _ (by omega) h3)
  · rename_i id k n
    obtain ⟨m, _, _, hv⟩ := ep
    rcases hv with ⟨_, rfl, _, rfl⟩ | ⟨b, cap, arr, e, _, rfl, h1, h2, _⟩
    · exact OpOk.val h hd (run _ _ _ rfl) (.mkI (by constructor <;> omega)) (hK 0 (Nat.le_refl _) (by unfold maxLen; omega))
    · exact OpOk.val h hd (run _ _ _ rfl) (.mkI (by unfold maxLen at h2; constructor <;> omega)) (hK _ h1 h2)
  · exact hK.elim

theorem nck_ok (h : Repr g s a w blk) (hd : ∀ i, o.dst = some i → i < g.N) {p : Operand} {xp : X} (ho : o.op = .nilCheck p)
    (hp : cx p = some xp) (hK : nckP (s.ev xp) fun v => K (s.put o.dst v)) : OpOk P g o a w K := by
  have ep := h.ev hp
  have run : ∀ ad, a.eval p = .pointer (some ad) → (execOp a.eval o).run P w = .ok (.value (.pointer (some ad))) w := by
    intro ad e1
    simp [execOp, ho, e1]
  revert hK ep run
  generalize s.ev xp = vp; generalize a.eval p = v
  intro hK ep run
  unfold nckP at hK
  split at hK
  · have ep' := ep
    obtain ⟨b, cells, _, _, rfl⟩ := ep
    exact OpOk.val h hd (run _ rfl) ep' hK
  · have ep' := ep
    obtain ⟨b, m, _, _, rfl⟩ := ep
    exact OpOk.val h hd (run _ rfl) ep' hK
  · have ep' := ep
    obtain ⟨ad, rfl, _⟩ := ep
    exact OpOk.val h hd (run _ rfl) ep' hK
  · exact hK.elim

theorem wrap_i64_in (n : Int) : inI (IntKind.i64.wrap n) := by
  rw [IntKind.wrap_i64]; unfold inI; omega
theorem ishr_in {a n : Int} (h : inI a) : inI (ishr a n) := by
  unfold ishr
  have hp : (1 : Int) ≤ 2 ^ (min n.toNat 64) := by
    have : 0 < (2 : Int) ^ (min n.toNat 64) := Int.pow_pos (by omega)
    omega
  rw [Int.fdiv_eq_ediv_of_nonneg _ (by omega)]
  unfold inI at *
  generalize (2 : Int) ^ (min n.toNat 64) = q at hp
  constructor
  · by_cases h0 : a < 0
    · have h1 : a * q ≤ a := by
        have := Int.mul_le_mul_of_nonpos_left (a := a) (b := q) (c := 1) (by omega) hp
        simpa using this
      have : a ≤ a / q := by
        rw [Int.le_ediv_iff_mul_le (by omega)]; exact h1
      omega
    · have := Int.ediv_nonneg (show 0 ≤ a by omega) (show 0 ≤ q by omega); omega
  · by_cases h0 : a < 0
    · have := Int.ediv_neg_of_neg_of_pos h0 (show 0 < q by omega); omega
    · have := Int.ediv_le_self q (show 0 ≤ a by omega); omega
theorem beq_nat_int (m n : Nat) : ((m : Int) == (n : Int)) = decide (m = n) := by
  rw [Bool.eq_iff_iff, beq_iff_eq, decide_eq_true_iff]; omega

theorem run_and (w : World) (m n : Int) : (Op.intBits .and .i64 m n).run P w = .ok (.int .i64 (iand m n)) w := rfl
theorem run_xor (w : World) (m n : Int) : (Op.intBits .xor .i64 m n).run P w = .ok (.int .i64 (ixor m n)) w := rfl
theorem bit_ok (h : Repr g s a w blk) (hd : ∀ i, o.dst = some i → i < g.N) {op : BinOp} {t t' : TypeId} {p q : Operand} {xp xq : X} (ho : o.op = .binOp op t p q t') (hp : cx p = some xp) (hq : cx q = some xq)
    (hK : bitP op (s.ev xp) (s.ev xq) fun v => K (s.put o.dst v)) : OpOk P g o a w K := by
  have ep := h.ev hp; have eq := h.ev hq
  revert hK ep eq
  generalize s.ev xp = vp; generalize s.ev xq = vq
  intro hK ep eq
  unfold bitP at hK
  split at hK
  · rename_i m n
    obtain ⟨e1, i1⟩ := ep.int; obtain ⟨e2, i2⟩ := eq.int
    split at hK
    · exact OpOk.val h hd (v := .int .i64 (iand m n)) (by simp [execOp, ho, e1, e2, eqGuard, binOp, run_and]) (.mkI (wrap_i64_in _)) hK
    · exact OpOk.val h hd (v := .int .i64 (ixor m n)) (by simp [execOp, ho, e1, e2, eqGuard, binOp, run_xor]) (.mkI (wrap_i64_in _)) hK
    · exact OpOk.val h hd (v := .int .i64 (ishl m n)) (by simp [execOp, ho, e1, e2, eqGuard, binOp, Op.shift, ishl, IntKind.bits, Int.not_lt.2 hK.1]) (.mkI (wrap_i64_in _)) hK.2
    · refine OpOk.val h hd (v := .int .i64 (ishr m n)) (by simp [execOp, ho, e1, e2, eqGuard, binOp, Op.shift, ishr, IntKind.bits, Int.not_lt.2 hK.1]) (.mkI (ishr_in i1)) hK.2
    · exact hK.elim
  · exact hK.elim

theorem bitc_ok (h : Repr g s a w blk) (hd : ∀ i, o.dst = some i → i < g.N) {op : BinOp} {t t' : TypeId} {p q : Operand} {xp : X} {n : Int} (ho : o.op = .binOp op t p q t') (hp : cx p = some xp) (hq : shC op q = some n)
    (hK : bitP op (s.ev xp) (.c (.i n)) fun v => K (s.put o.dst v)) : OpOk P g o a w K := by
  have ep := h.ev hp
  obtain ⟨k, rfl, hop⟩ : ∃ k, q = .const (.int k n) ∧ (op = .shl ∨ op = .shr) := by
    unfold shC at hq
    split at hq
    · split at hq
      · cases hq; exact ⟨_, rfl, .inl rfl⟩
      · cases hq
    · split at hq
      · cases hq; exact ⟨_, rfl, .inr rfl⟩
      · cases hq
    · cases hq
  have e2 : a.eval (.const (.int k n)) = .int k n := rfl
  revert hK ep
  generalize s.ev xp = vp
  intro hK ep
  unfold bitP at hK
  split at hK
  · rename_i m n' hh
    cases hh
    obtain ⟨e1, i1⟩ := ep.int
    rcases hop with rfl | rfl
    · simp only at hK
      exact OpOk.val h hd (v := .int .i64 (ishl m n)) (by simp [execOp, ho, e1, e2, eqGuard, binOp, Op.shift, ishl, IntKind.bits, Int.not_lt.2 hK.1]) (.mkI (wrap_i64_in _)) hK.2
    · simp only at hK
      refine OpOk.val h hd (v := .int .i64 (ishr m n)) (by simp [execOp, ho, e1, e2, eqGuard, binOp, Op.shift, ishr, IntKind.bits, Int.not_lt.2 hK.1]) (.mkI (ishr_in i1)) hK.2
  · exact hK.elim

theorem binw_ok (h : Repr g s a w blk) (hd : ∀ i, o.dst = some i → i < g.N) {op : BinOp} {t t' : TypeId} {p q : Operand} {xp xq : X} (ho : o.op = .binOp op t p q t') (hp : cx p = some xp) (hq : cx q = some xq)
    (hK : binwP op (s.ev xp) (s.ev xq) fun v => K (s.put o.dst v)) : OpOk P g o a w K := by
  have ep := h.ev hp; have eq := h.ev hq
  revert hK ep eq
  generalize s.ev xp = vp; generalize s.ev xq = vq
  intro hK ep eq
  unfold binwP at hK
  split at hK
  · rename_i m n
    obtain ⟨e1, i1⟩ := ep.int; obtain ⟨e2, i2⟩ := eq.int
    split at hK
    · exact OpOk.val h hd (v := .int .i64 (IntKind.i64.wrap (m + n))) (by simp [execOp, ho, e1, e2, eqGuard, binOp, Op.intArith]) (.mkI (wrap_i64_in _)) hK
    · exact OpOk.val h hd (v := .int .i64 (IntKind.i64.wrap (m * n))) (by simp [execOp, ho, e1, e2, eqGuard, binOp, Op.intArith]) (.mkI (wrap_i64_in _)) hK
    · exact hK.elim
  · exact hK.elim

theorem wrap_u8 (n : Int) : IntKind.u8.wrap n = n % 256 := IntKind.wrap_u8 n
theorem binu_ok (h : Repr g s a w blk) (hd : ∀ i, o.dst = some i → i < g.N) {op : BinOp} {t t' : TypeId} {p q : Operand} {xp xq : X} (ho : o.op = .binOp op t p q t') (hp : cx p = some xp) (hq : cx q = some xq)
    (hK : binuP op (s.ev xp) (s.ev xq) fun v => K (s.put o.dst v)) : OpOk P g o a w K := by
  have ep := h.ev hp; have eq := h.ev hq
  revert hK ep eq
  generalize s.ev xp = vp; generalize s.ev xq = vq
  intro hK ep eq
  unfold binuP at hK
  split at hK
  · rename_i m n
    obtain ⟨e1, i1⟩ := ep.byte; obtain ⟨e2, i2⟩ := eq.byte
    split at hK
    · refine OpOk.val h hd (v := .int .u8 (((m + n) % 256 : Nat) : Int)) ?_ (.mk (.u (by omega))) hK
      have : IntKind.u8.wrap ((m : Int) + n) = (((m + n) % 256 : Nat) : Int) := by rw [wrap_u8]; omega
      simp [execOp, ho, e1, e2, eqGuard, binOp, Op.intArith, this]
    · refine OpOk.val h hd (v := .int .u8 (((m + 256 - n) % 256 : Nat) : Int)) ?_ (.mk (.u (by omega))) hK
      have : IntKind.u8.wrap ((m : Int) - n) = (((m + 256 - n) % 256 : Nat) : Int) := by rw [wrap_u8]; omega
      simp [execOp, ho, e1, e2, eqGuard, binOp, Op.intArith, this]
    · exact OpOk.val h hd (v := .bool (decide (m = n))) (by simp [execOp, ho, e1, e2, eqGuard, binOp, Op.intCmp, beq_nat_int]) .mkB hK
    · exact OpOk.val h hd (v := .bool (!decide (m = n))) (by simp [execOp, ho, e1, e2, eqGuard, binOp, Op.intCmp, beq_nat_int, bne]) .mkB hK
    · exact OpOk.val h hd (v := .bool (decide (m < n))) (by simp [execOp, ho, e1, e2, eqGuard, binOp, Op.intCmp]) .mkB hK
    · exact OpOk.val h hd (v := .bool (decide (m ≤ n))) (by simp [execOp, ho, e1, e2, eqGuard, binOp, Op.intCmp]) .mkB hK
    · exact OpOk.val h hd (v := .bool (decide (n < m))) (by simp [execOp, ho, e1, e2, eqGuard, binOp, Op.intCmp]) .mkB hK
    · exact OpOk.val h hd (v := .bool (decide (n ≤ m))) (by simp [execOp, ho, e1, e2, eqGuard, binOp, Op.intCmp]) .mkB hK
    · exact hK.elim
  · exact hK.elim

theorem run_stringOp (op : BinOp) (t : TypeId) (x y : ByteArray) (h : op = .add ∨ op = .eql ∨ op = .neq) (w : World) (ht : P.underlying t = some .string) (hs : x.size + y.size ≤ maxLen) :
    (binOp op t (.string x) (.string y)).run P w = .ok (match op with | .add => .string (x ++ y) | .eql => .bool (x.toList == y.toList) | _ => .bool !(x.toList == y.toList)) w := by
  have hb : ¬ ((x.size + y.size : Nat) : Int) > IntKind.i64.max := by
    have : IntKind.i64.max = 9223372036854775807 := rfl
    unfold maxLen at hs
    omega
  have hb2 : (x.size : Int) + y.size ≤ IntKind.i64.max := by
    have : IntKind.i64.max = 9223372036854775807 := rfl
    unfold maxLen at hs
    omega
  rcases h with rfl | rfl | rfl
  · simp only [binOp, Op.stringOp, if_neg hb]; rfl
  · simp [binOp, Op.stringOp]
  · simp [binOp, Op.stringOp]
theorem run_eqGuard_string (w : World) (op : BinOp) (t : TypeId) (x y : Operand) (m n : ByteArray) : (eqGuard op t x y (.string m) (.string n)).run P w = .ok () w := by
  unfold eqGuard; split <;> rfl

theorem bytes_beq (x y : ByteArray) : (x.toList == y.toList) = decide (x = y) := by
  rw [Bool.eq_iff_iff, beq_iff_eq, decide_eq_true_iff]
  refine ⟨fun h => ?_, fun h => by rw [h]⟩
  rw [ByteArray.toList_eq, ByteArray.toList_eq] at h
  exact ByteArray.ext (Array.toList_inj.1 h)

theorem seq_ok (h : Repr g s a w blk) (hd : ∀ i, o.dst = some i → i < g.N) {neg : Bool} {t t' : TypeId} {p q : Operand} {xp xq : X} (ho : o.op = .binOp (if neg then .neq else .eql) t p q t') (ht : P.underlying t = some .string)
    (hp : cx p = some xp) (hq : cx q = some xq) (hK : seqP neg (s.ev xp) (s.ev xq) fun v => K (s.put o.dst v)) : OpOk P g o a w K := by
  have ep := h.ev hp; have eq := h.ev hq
  revert hK ep eq
  generalize s.ev xp = vp; generalize s.ev xq = vq
  intro hK ep eq
  unfold seqP at hK
  split at hK
  · rename_i m n
    obtain ⟨e1, i1⟩ := ep.str; obtain ⟨e2, i2⟩ := eq.str
    refine OpOk.val h hd (v := .bool (if neg then !decide (m = n) else decide (m = n))) ?_ .mkB hK
    cases neg
    · simp [execOp, ho, e1, e2, run_eqGuard_string, binOp, Op.stringOp, bytes_beq]
    · simp [execOp, ho, e1, e2, run_eqGuard_string, binOp, Op.stringOp, bytes_beq]
  · exact hK.elim

theorem scat_ok (h : Repr g s a w blk) (hd : ∀ i, o.dst = some i → i < g.N) {t t' : TypeId} {p q : Operand} {xp xq : X} (ho : o.op = .binOp .add t p q t') (ht : P.underlying t = some .string)
    (hp : cx p = some xp) (hq : cx q = some xq) (hK : scatP (s.ev xp) (s.ev xq) fun v => K (s.put o.dst v)) : OpOk P g o a w K := by
  have ep := h.ev hp; have eq := h.ev hq
  revert hK ep eq
  generalize s.ev xp = vp; generalize s.ev xq = vq
  intro hK ep eq
  unfold scatP at hK
  split at hK
  · rename_i m n
    obtain ⟨e1, i1⟩ := ep.str; obtain ⟨e2, i2⟩ := eq.str
    obtain ⟨hs, hK⟩ := hK
    have := run_stringOp (P := P) .add t m n (.inl rfl) w ht hs
    refine OpOk.val h hd (v := .string (m ++ n)) ?_ (.mk (.s (by rw [ByteArray.size_append]; exact hs))) hK
    simp only [execOp, ho, e1, e2, run_eqGuard_string, Sem.run_bind, Sem.run_pure, Result.andThen_ok, this]
  · exact hK.elim

theorem mkf_ok (h : Repr g s a w blk) (hd : ∀ i, o.dst = some i → i < g.N) {f : Nat} {first captured : Array Operand} {xs : List X} (ho : o.op = .makeFunc (.func f) first captured) (hf : first.toList = [])
    (hx : cxs captured.toList = some xs) (hone : (xs.map s.ev).all AV.cellOk = true) (hK : K (s.put o.dst (.fn f (xs.map s.ev)))) : OpOk P g o a w K := by
  obtain ⟨hl, hg⟩ := h.evs hx
  have e0 : first = #[] := by cases first; simp at hf; subst hf; rfl
  refine OpOk.val2 h hd hK (v := .func (.func f) #[] (captured.map a.eval)) (by simp [execOp, ho, Instr.makeFunc, e0]) ⟨captured.map a.eval, rfl, by simpa using hl, fun j x hj => ?_⟩
  obtain ⟨u, hu, hr⟩ := hg j x hj
  exact ⟨u, by simpa using hu, hr.one1 (List.all_eq_true.1 hone x (List.mem_of_getElem? hj))⟩

end
end Go.Proofs.Ytenfgllkjgfjpaa
