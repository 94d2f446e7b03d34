/- The abstract machine, part 17: quiet regions that leave their order open: every order comes to one end. -/
import Derived.Test.YtenfgllkjgfjpaaMCore16
set_option linter.all false
namespace Go.Proofs.Ytenfgllkjgfjpaa
open Go.RowKit

/-- The state behind the operations of E. -/
def stE (s : St) (is : List Ins) (r : Nat → AV) (E : Nat → Bool) : St :=
  ⟨fun t => match (List.range is.length).find? (fun i => E i && (is[i]?).bind (·.d) == some t) with
    | some i => r i
    | none => s.env t, s.objs⟩

section
variable {P : Program} {g : Ghost} {N : Nat} {s : St} {a : Act} {w : World} {blk : Lay} {ops : Array Oper}

theorem compOps_get : ∀ {l : List Oper} {is : List Ins}, compOps P N ops l = some is → is.length = l.length ∧ ∀ (j : Nat) (o : Oper), l[j]? = some o → ∃ i, is[j]? = some i ∧ compIns P N ops o = some i
  | [], is, h => by cases h; exact ⟨rfl, fun j o hj => by simp at hj⟩
  | o :: l, is, h => by
    simp only [compOps] at h
    split at h
    · rename_i i is' h1 h2
      cases h
      obtain ⟨e1, e2⟩ := compOps_get h2
      refine ⟨by simp [e1], fun j o' hj => ?_⟩
      cases j with
      | zero => simp at hj; subst hj; exact ⟨i, rfl, h1⟩
      | succ j => exact e2 j o' (by simpa using hj)
    · cases h

theorem compIns_get {o : Oper} {i : Ins} (h1 : compIns P N ops o = some i) : (∀ d, o.dst = some d → d < N) ∧ ∃ op, compOp P o = some op ∧ i.d = o.dst ∧ i.op = op ∧
    ((o.guard = none ∧ i.g = none) ∨ ∃ j want t, o.guard = some (j, want) ∧ (ops[j]?).bind (·.dst) = some t ∧ t < slotM ∧ i.g = some (t, want)) := by
  constructor
  · intro j hj
    unfold compIns at h1
    split at h1
    · split at h1
      · rename_i e; rw [e] at hj; cases hj
      · rename_i d e
        by_cases hlt : d < N
        · rw [e] at hj; cases hj; exact hlt
        · rw [if_neg hlt] at h1; cases h1
    · cases h1
  · unfold compIns at h1
    split at h1
    · rename_i op hop
      refine ⟨op, hop, ?_⟩
      split at h1
      · rename_i e
        split at h1
        · rename_i eg; cases h1; exact ⟨e.symm, rfl, .inl ⟨eg, rfl⟩⟩
        · rename_i j want eg
          split at h1
          · rename_i t ht
            split at h1
            · rename_i hlt; cases h1; exact ⟨e.symm, rfl, .inr ⟨j, want, t, eg, ht, hlt, rfl⟩⟩
            · cases h1
          · cases h1
      · rename_i d e
        split at h1
        · split at h1
          · rename_i eg; cases h1; exact ⟨e.symm, rfl, .inl ⟨eg, rfl⟩⟩
          · rename_i j want eg
            split at h1
            · rename_i t ht
              split at h1
              · rename_i hlt; cases h1; exact ⟨e.symm, rfl, .inr ⟨j, want, t, eg, ht, hlt, rfl⟩⟩
              · cases h1
            · cases h1
        · cases h1
    · cases h1

/-- One quiet operation, done or passed over, at its one result. -/
theorem ins_step (hN : g.N = N) (h : Repr g s a w blk) {o : Oper} {i : Ins} (hc : compIns P N ops o = some i) {l : List Nat} (hl : i.reads = some l) {r : AV} (hv : ∀ k' : AV → Prop, k' r → insV P i s.ev s.objs k') :
    (Region.wanted o (yielded ops a.tmps) = true ∧ OpOk P g o a w (fun s' => s' = s.put i.d r)) ∨
    (Region.wanted o (yielded ops a.tmps) = false ∧ Repr g (s.put i.d r) (a.put o.dst undef) w blk) := by
  obtain ⟨hd0, op, hop, hid, hiop, hg⟩ := compIns_get hc
  have hd : ∀ d, o.dst = some d → d < g.N := by rw [hN]; exact hd0
  unfold Ins.reads at hl
  simp only [Option.map_eq_some_iff] at hl
  obtain ⟨m, hm, _⟩ := hl
  have doit : valP P i.op s.ev s.objs (fun v => v = r) → OpOk P g o a w (fun s' => s' = s.put i.d r) := by
    intro hval
    refine step_ok h hd hop ?_
    rw [← hiop]
    refine stepI_of_valP hm ?_
    rw [← hid]
    obtain ⟨r', hr', hall⟩ := valP_det (P := P) h hm _ hval
    exact hall _ (by rw [hr'])
  rcases hg with ⟨e1, e2⟩ | ⟨j, want, t, e1, e2, htl, e3⟩
  · refine .inl ⟨by simp [Region.wanted, e1], doit ?_⟩
    have := hv (fun v => v = r) rfl
    unfold insV at this
    rw [e2] at this
    exact this
  · have hq := hv (fun v => v = r) rfl
    unfold insV at hq
    rw [e3] at hq
    simp only [St.ev] at hq
    have hen := h.at_ htl
    have hy : ∀ v : Bool, a.tmps.getD t undef = .bool v → yielded ops a.tmps j = some v := by
      intro v hv
      unfold yielded
      rw [e2]
      simp only [Option.bind_some]
      have : a.tmps[t]? = some (.bool v) := by
        rw [Array.getD_eq_getD_getElem?] at hv
        cases hq : a.tmps[t]? with
        | none => rw [hq] at hv; simp [undef] at hv
        | some u => rw [hq] at hv; simp at hv; rw [hv]
      rw [this]
    unfold guardP at hq
    split at hq
    · rename_i v hvv
      rw [hvv] at hen
      have hb := hen.bool
      by_cases e : v = want
      · exact .inl ⟨by simp [Region.wanted, e1, hy v hb, e], doit (hq.1 e)⟩
      · have hr := hq.2 (by cases v <;> cases want <;> simp_all)
        refine .inr ⟨by simp [Region.wanted, e1, hy v hb, e], ?_⟩
        rw [← hr, hid]
        exact h.put hd (v := undef) (x := .und) (show undef = undef from rfl)
    · rename_i hvv
      rw [hvv] at hen
      have hu : a.tmps.getD t undef = undef := hen
      have hyn : yielded ops a.tmps j = none := by
        unfold yielded
        rw [e2]
        simp only [Option.bind_some]
        cases hq : a.tmps[t]? with
        | none => rfl
        | some u =>
          have : u = undef := by rw [Array.getD_eq_getD_getElem?, hq] at hu; simpa using hu
          rw [this]; rfl
      refine .inr ⟨by simp [Region.wanted, e1, hyn], ?_⟩
      rw [← hq, hid]
      exact h.put hd (v := undef) (x := .und) (show undef = undef from rfl)
    · exact hq.elim

theorem OpOk.some_ {o : Oper} {K : St → Prop} (h : OpOk P g o a w K) : ∃ s' a' w' blk', K s' ∧ Repr g s' a' w' blk' := by
  obtain ⟨nx, w', hr, h⟩ := h
  cases nx with
  | value v => obtain ⟨s', blk', k, r⟩ := h; exact ⟨_, _, _, _, k, r⟩
  | skip => obtain ⟨s', blk', k, r⟩ := h; exact ⟨_, _, _, _, k, r⟩
  | enter f args =>
    obtain ⟨e, w2, fr, ⟨v, _, s', blk', k, r⟩, _⟩ := h []
    exact ⟨_, _, _, _, k, r⟩
  | _ => exact h.elim

theorem stE_put {is : List Ins} {r : Nat → AV} {E : Nat → Bool} {m : Nat} {i : Ins} (hi : is[m]? = some i) (hm : E m = false) (hdist : ∀ (j : Nat) (x : Ins), is[j]? = some x → j ≠ m → x.d.isNone = true ∨ x.d ≠ i.d) :
    stE s is r (fun j => E j || j == m) = (stE s is r E).put i.d (r m) := by
  have hml : m < is.length := (List.getElem?_eq_some_iff.1 hi).1
  cases hd : i.d with
  | none =>
    show stE s is r (fun j => E j || j == m) = stE s is r E
    unfold stE
    congr 1
    funext t
    have : (fun j => (E j || j == m) && (is[j]?).bind (·.d) == some t) = fun j => E j && (is[j]?).bind (·.d) == some t := by
      funext j
      by_cases e : j = m
      · subst e; simp [hi, hd]
      · have : (j == m) = false := by simpa using e
        rw [this, Bool.or_false]
    rw [this]
  | some d =>
    show stE s is r (fun j => E j || j == m) = ⟨upd d (r m) (stE s is r E).env, (stE s is r E).objs⟩
    unfold stE
    congr 1
    funext t
    rw [upd_apply]
    by_cases e : t = d
    · subst e
      rw [if_pos rfl]
      have : (List.range is.length).find? (fun j => (E j || j == m) && (is[j]?).bind (·.d) == some t) = some m := by
        rw [List.find?_eq_some_iff_append]
        refine ⟨by simp [hi, hd], List.range m, (List.range is.length).drop (m + 1), ?_, ?_⟩
        · conv => lhs; rw [← List.take_append_drop m (List.range is.length)]
          congr 1
          · rw [List.take_range, Nat.min_eq_left (by omega)]
          · rw [List.drop_eq_getElem_cons (by simpa using hml)]; simp
        · intro j hj
          have hjm : j ≠ m := by have := List.mem_range.1 hj; omega
          cases hx : is[j]? with
          | none => simp
          | some x =>
            rcases hdist j x hx hjm with h1 | h1
            · have : x.d = none := by simpa using h1
              simp [this]
            · have : x.d ≠ some t := by rw [← hd]; exact h1
              simp [this]
      rw [this]
    · rw [if_neg e]
      have : (fun j => (E j || j == m) && (is[j]?).bind (·.d) == some t) = fun j => E j && (is[j]?).bind (·.d) == some t := by
        funext j
        by_cases e2 : j = m
        · subst e2; simp [hi, hd, Ne.symm e]
        · have : (j == m) = false := by simpa using e2
          rw [this, Bool.or_false]
      rw [this]

theorem stE_congr {is : List Ins} {r r' : Nat → AV} {E E' : Nat → Bool} (h : ∀ j, j < is.length → E j = E' j ∧ (E j = true → r j = r' j)) : stE s is r E = stE s is r' E' := by
  unfold stE
  congr 1
  funext t
  have : ∀ l : List Nat, (∀ j ∈ l, j < is.length) → (match l.find? (fun i => E i && (is[i]?).bind (·.d) == some t) with | some i => r i | none => s.env t) = (match l.find? (fun i => E' i && (is[i]?).bind (·.d) == some t) with | some i => r' i | none => s.env t) := by
    intro l
    induction l with
    | nil => intro _; rfl
    | cons j l ih =>
      intro hl
      obtain ⟨h1, h2⟩ := h j (hl j (by simp))
      simp only [List.find?_cons, ← h1]
      cases hE : (E j && (is[j]?).bind (·.d) == some t) with
      | true =>
        simp only
        have : E j = true := by revert hE; cases E j <;> simp
        exact h2 this
      | false => exact ih (fun q hq => hl q (by simp [hq]))
  exact this _ (fun j hj => List.mem_range.1 hj)

theorem stE_none {is : List Ins} {r : Nat → AV} : stE s is r (fun j => decide (j < 0)) = s := by
  obtain ⟨env, objs⟩ := s
  unfold stE
  congr 1
  funext t
  have : (List.range is.length).find? (fun i => decide (i < 0) && (is[i]?).bind (·.d) == some t) = none := by
    rw [List.find?_eq_none]
    intro j _
    simp
  rw [this]

structure QuietInfo (ops : Array Oper) (is : List Ins) : Prop where
  len : is.length = ops.size
  rd : ∀ (j : Nat) (i : Ins), is[j]? = some i → i.reads.isSome = true
  back : ∀ (j : Nat) (o : Oper), ops[j]? = some o → ∀ e ∈ o.after, Region.binds .any e = true → e.on < j
  dist : ∀ (i j : Nat) (x y : Ins), i < j → is[i]? = some x → is[j]? = some y → x.d.isNone = true ∨ x.d ≠ y.d
  pair : ∀ (i j : Nat) (x y : Ins) (o : Oper), i < j → is[i]? = some x → is[j]? = some y → ops[j]? = some o → edgeTo o i = true ∨ indep x y = true

theorem quiet_info {is : List Ins} (hl : is.length = ops.size) (h : quietOk ops is = true) : QuietInfo ops is := by
  unfold quietOk at h
  rw [Bool.and_eq_true, List.all_eq_true, List.all_eq_true] at h
  obtain ⟨h1, h2⟩ := h
  have key : ∀ (j : Nat) (o : Oper) (y : Ins), ops[j]? = some o → is[j]? = some y → (∀ e ∈ o.after, Region.binds .any e = true → e.on < j) ∧ ∀ (i : Nat) (x : Ins), i < j → is[i]? = some x → pairOk o i x y = true := by
    intro j o y ho hy
    have hj : j < ops.size := (Array.getElem?_eq_some_iff.1 ho).1
    have := h2 j (List.mem_range.2 hj)
    rw [ho, hy] at this
    simp only [Bool.and_eq_true, Array.all_eq_true', Bool.or_eq_true, Bool.not_eq_true', decide_eq_true_eq, List.all_eq_true] at this
    refine ⟨fun e he hb => ?_, fun i x hi hx => ?_⟩
    · rcases this.1 e he with e1 | e1
      · rw [hb] at e1; cases e1
      · exact e1
    · have := this.2 i (List.mem_range.2 hi)
      rw [hx] at this
      exact this
  refine ⟨hl, fun j i hi => h1 i (List.mem_of_getElem? hi), fun j o ho => ?_, fun i j x y hij hx hy => ?_, fun i j x y o hij hx hy ho => ?_⟩
  · have hj : j < is.length := by rw [hl]; exact (Array.getElem?_eq_some_iff.1 ho).1
    exact (key j o _ ho (List.getElem?_eq_getElem hj)).1
  · have hj : j < ops.size := by rw [← hl]; exact (List.getElem?_eq_some_iff.1 hy).1
    have := (key j _ y (Array.getElem?_eq_getElem hj) hy).2 i x hij hx
    simp only [pairOk, Bool.and_eq_true, Bool.or_eq_true, bne_iff_ne] at this
    exact this.1
  · have := (key j o y ho hy).2 i x hij hx
    simp only [pairOk, Bool.and_eq_true, Bool.or_eq_true, bne_iff_ne] at this
    exact this.2

/-- The results in the order of the text. -/
theorem quiet_trace (hN : g.N = N) {is : List Ins} {K : St → Prop} (hc : compOps P N ops ops.toList = some is) (hq : QuietInfo ops is) (h : Repr g s a w blk) (hw : wpQ P is s K) :
    ∃ r : Nat → AV, K (stE s is r (fun j => decide (j < is.length))) ∧ ∀ (j : Nat) (i : Ins), is[j]? = some i → ∀ k' : AV → Prop, k' (r j) → insV P i (stE s is r (fun q => decide (q < j))).ev s.objs k' := by
  obtain ⟨hlen, hget⟩ := compOps_get hc
  have key : ∀ m, m ≤ is.length → ∃ r : Nat → AV, wpQ P (is.drop m) (stE s is r (fun j => decide (j < m))) K ∧ (∃ a' w' blk', Repr g (stE s is r (fun j => decide (j < m))) a' w' blk') ∧
      ∀ (j : Nat) (i : Ins), j < m → is[j]? = some i → ∀ k' : AV → Prop, k' (r j) → insV P i (stE s is r (fun q => decide (q < j))).ev s.objs k' := by
    intro m
    induction m with
    | zero => intro _; exact ⟨fun _ => .any, by rw [stE_none]; exact hw, ⟨a, w, blk, by rw [stE_none]; exact h⟩, fun j i hj => by omega⟩
    | succ m ih =>
      intro hm
      obtain ⟨r, h1, ⟨a1, w1, blk1, h2⟩, h3⟩ := ih (by omega)
      have hi := List.getElem?_eq_getElem (show m < is.length by omega)
      revert hi
      generalize is[m] = i
      intro hi
      have hdrop : is.drop m = i :: is.drop (m + 1) := by
        rw [List.drop_eq_getElem_cons (by omega)]
        congr 1
        rw [List.getElem?_eq_getElem (by omega)] at hi
        exact Option.some.inj hi
      rw [hdrop] at h1
      obtain ⟨l, hl⟩ := Option.isSome_iff_exists.1 (hq.rd m i hi)
      obtain ⟨rm, k1, k2⟩ := insV_det (P := P) h2 hl _ h1
      let r' : Nat → AV := fun j => if j = m then rm else r j
      have hsame : ∀ q, q ≤ m → stE s is r (fun j => decide (j < q)) = stE s is r' (fun j => decide (j < q)) := fun q hq => stE_congr fun j _ => ⟨rfl, fun hj => by
        have : j < q := by simpa using hj
        simp only [r']; rw [if_neg (by omega)]⟩
      have hdist : ∀ (j : Nat) (x : Ins), is[j]? = some x → j ≠ m → x.d.isNone = true ∨ x.d ≠ i.d := by
        intro j x hx hjm
        rcases Nat.lt_or_gt_of_ne hjm with e | e
        · exact hq.dist j m x i e hx hi
        · rcases hq.dist m j i x e hi hx with e2 | e2
          · have : i.d = none := by simpa using e2
            rw [this]
            cases hxd : x.d with
            | none => exact .inl rfl
            | some _ => exact .inr (by simp)
          · exact .inr (Ne.symm e2)
      have hput : stE s is r' (fun j => decide (j < m + 1)) = (stE s is r (fun j => decide (j < m))).put i.d rm := by
        have e1 : stE s is r' (fun j => decide (j < m + 1)) = stE s is r' (fun j => decide (j < m) || j == m) := stE_congr fun j _ => ⟨by
          by_cases e1 : j < m
          · simp [e1]; omega
          · by_cases e2 : j = m
            · simp [e2]
            · have : ¬ j < m + 1 := by omega
              simp [e1, e2, this], fun _ => rfl⟩
        rw [e1, stE_put hi (by simp) hdist, hsame m (Nat.le_refl _)]
        simp [r']
      have hmo : m < ops.size := by rw [← hq.len]; omega
      obtain ⟨i', hi', hci⟩ := hget m _ (by rw [Array.getElem?_toList]; exact Array.getElem?_eq_getElem hmo)
      rw [hi] at hi'; cases hi'
      refine ⟨r', by rw [hput]; exact k1, ?_, fun j x hj hx k' hk' => ?_⟩
      · rw [hput]
        rcases ins_step (ops := ops) hN h2 hci hl k2 with ⟨_, ho⟩ | ⟨_, ho⟩
        · obtain ⟨s', a', w', blk', e, hr⟩ := ho.some_
          rw [e] at hr
          exact ⟨a', w', blk', hr⟩
        · exact ⟨_, _, _, ho⟩
      · by_cases e : j = m
        · subst e
          rw [hi] at hx; cases hx
          rw [← hsame _ (Nat.le_refl _)]
          exact k2 k' (by simpa [r'] using hk')
        · rw [← hsame j (by omega)]
          exact h3 j x (by omega) hx k' (by simpa [r', e] using hk')
  obtain ⟨r, h1, _, h3⟩ := key is.length (Nat.le_refl _)
  rw [List.drop_length] at h1
  exact ⟨r, h1, fun j i hi => h3 j i (List.getElem?_eq_some_iff.1 hi).1 hi⟩

theorem binds_any {md : Region.Mode} {e : Edge} (h : Region.binds .any e = true) : Region.binds md e = true := by
  unfold Region.binds at *
  split at h
  · cases h
  · cases h
  · rfl

/-- Each operation's rank is above those of the operations that it waits for. -/
def Ranked (md : Region.Mode) (ops : Array Oper) (rk : Nat → Nat) : Prop :=
  ∀ (j : Nat) (o : Oper), ops[j]? = some o → ∀ e ∈ o.after, Region.binds md e = true → rk e.on < rk j ∧ e.on < ops.size
theorem ranked_of {md : Region.Mode} {rk : Nat → Nat} (h : rankOk md ops rk = true) : Ranked md ops rk := by
  intro j o ho e he hb
  unfold rankOk at h
  rw [List.all_eq_true] at h
  have := h j (List.mem_range.2 (Array.getElem?_eq_some_iff.1 ho).1)
  rw [ho] at this
  simp only [Array.all_eq_true', Bool.or_eq_true, Bool.not_eq_true', Bool.and_eq_true, decide_eq_true_eq] at this
  rcases this e he with h1 | h1
  · rw [hb] at h1; cases h1
  · exact h1
theorem ranked_any {is : List Ins} (hq : QuietInfo ops is) : Ranked .any ops (fun j => j) := by
  intro j o ho e he hb
  have h1 := hq.back j o ho e he hb
  exact ⟨h1, Nat.lt_trans h1 (Array.getElem?_eq_some_iff.1 ho).1⟩

theorem quiet_any {md : Region.Mode} {rk : Nat → Nat} (hrk : Ranked md ops rk) (hN : g.N = N) {is : List Ins} {Q : Exit → Act → World → Prop} (hc : compOps P N ops ops.toList = some is) (hq : QuietInfo ops is) {r : Nat → AV}
    (hdet : ∀ (j : Nat) (i : Ins), is[j]? = some i → ∀ k' : AV → Prop, k' (r j) → insV P i (stE s is r (fun q => decide (q < j))).ev s.objs k')
    (hQ : ∀ a' w' blk', Repr g (stE s is r (fun j => decide (j < is.length))) a' w' blk' → Q .normal a' w') :
    ∀ (fuel : Nat) (listed : Array Bool) (a : Act) (w : World) (blk : Lay), listed.size = ops.size → (∀ (j : Nat) (o : Oper), ops[j]? = some o → listed.getD j true = true → ∀ e ∈ o.after, Region.binds .any e = true → listed.getD e.on false = true) →
      Repr g (stE s is r (fun j => listed.getD j false)) a w blk → ((List.range ops.size).filter fun j => !listed.getD j true).length = fuel → wpAny P md ops Q fuel listed a w := by
  obtain ⟨hlen, hget⟩ := compOps_get hc
  intro fuel
  have done : ∀ (listed : Array Bool) (a : Act) (w : World) (blk : Lay), listed.size = ops.size → Repr g (stE s is r (fun j => listed.getD j false)) a w blk → Region.ready md ops listed = [] → Q .normal a w := by
    intro listed a w blk hs hr hnil
    refine hQ a w blk ?_
    have hall : ∀ j, j < ops.size → listed.getD j false = true := by
      have key : ∀ n j, rk j = n → j < ops.size → listed.getD j false = true := by
       intro n
       induction n using Nat.strongRecOn with
       | _ n ih =>
        intro j hn hj
        cases hl : listed.getD j false with
        | true => rfl
        | false =>
          exfalso
          have : j ∈ Region.ready md ops listed := by
            unfold Region.ready
            rw [List.mem_filter]
            refine ⟨List.mem_range.2 hj, ?_⟩
            have h1 : listed.getD j true = false := by
              rw [Array.getD_eq_getD_getElem?, Array.getElem?_eq_getElem (by omega)] at hl ⊢
              simpa using hl
            rw [Array.getElem?_eq_getElem hj]
            simp only [h1, Option.map_some, Option.getD_some, Bool.not_false, Bool.true_and, Array.all_eq_true', Bool.or_eq_true, Bool.not_eq_true']
            intro e he
            cases hb : Region.binds md e with
            | false => exact .inl rfl
            | true =>
              obtain ⟨h2, h3⟩ := hrk j _ (Array.getElem?_eq_getElem hj) e he hb
              exact .inr (ih _ (hn ▸ h2) e.on rfl h3)
          rw [hnil] at this
          cases this
      exact fun j hj => key _ j rfl hj
    rw [stE_congr (E' := fun j => decide (j < is.length)) (r' := r)] at hr
    · exact hr
    · intro j hj
      refine ⟨?_, fun _ => rfl⟩
      rw [hall j (by rw [← hq.len]; exact hj)]
      simp [hj]
  induction fuel with
  | zero =>
    intro listed a w blk hs hdown hr hcount
    have hnil : Region.ready md ops listed = [] := by
      rw [List.length_eq_zero_iff, List.filter_eq_nil_iff] at hcount
      unfold Region.ready
      rw [List.filter_eq_nil_iff]
      intro j hj
      have := hcount j hj
      simp only [Bool.not_eq_true', Bool.not_eq_false] at this
      simp [this]
    exact ⟨hnil, done listed a w blk hs hr hnil⟩
  | succ fuel ih =>
    intro listed a w blk hs hdown hr hcount
    refine ⟨fun hnil => done listed a w blk hs hr hnil, fun i hi => ?_⟩
    unfold Region.ready at hi
    rw [List.mem_filter] at hi
    obtain ⟨hi1, hi2⟩ := hi
    have hio := List.mem_range.1 hi1
    have ho := Array.getElem?_eq_getElem hio
    revert ho
    generalize ops[i] = o
    intro ho
    rw [ho] at hi2
    simp only [Option.map_some, Option.getD_some, Bool.and_eq_true, Bool.not_eq_true', Array.all_eq_true', Bool.or_eq_true] at hi2
    obtain ⟨hnl, haft⟩ := hi2
    have hnl2 : listed.getD i false = false := by
      rw [Array.getD_eq_getD_getElem?, Array.getElem?_eq_getElem (by omega)] at hnl ⊢
      simpa using hnl
    obtain ⟨x, hx, hcx⟩ := hget i o (by rw [Array.getElem?_toList]; exact ho)
    obtain ⟨l, hl⟩ := Option.isSome_iff_exists.1 (hq.rd i x hx)
    -- the temporaries that it looks at hold what they hold in the text's order
    have hagree : ∀ t, t ∈ l → (stE s is r (fun q => decide (q < i))).env t = (stE s is r (fun j => listed.getD j false)).env t := by
      intro t ht
      have : ∀ j, j < is.length → (is[j]?).bind (·.d) = some t → decide (j < i) = listed.getD j false := by
        intro j hj hjt
        have hxj := List.getElem?_eq_getElem hj
        revert hxj
        generalize is[j] = y
        intro hxj
        rw [hxj] at hjt
        simp only [Option.bind_some] at hjt
        have hrd : x.rd = l := by simp [Ins.rd, hl]
        rcases Nat.lt_trichotomy j i with e | e | e
        · simp only [e, decide_true]
          rcases hq.pair j i y x o e hxj hx ho with e1 | e1
          · unfold edgeTo at e1
            rw [Array.any_eq_true'] at e1
            obtain ⟨ed, hed, e2⟩ := e1
            simp only [Bool.and_eq_true, beq_iff_eq] at e2
            rcases haft ed hed with e3 | e3
            · rw [binds_any e2.2] at e3; cases e3
            · rw [← e2.1]; exact e3.symm
          · simp only [indep, hjt, hrd, Bool.and_eq_true] at e1
            have := e1.1
            simp only [Bool.not_eq_true', List.contains_eq_mem, decide_eq_false_iff_not] at this
            exact absurd ht this
        · subst e
          simp [hnl2]
        · simp only [show ¬ j < i from by omega, decide_false]
          have hjo := List.getElem?_eq_getElem hj
          have hoj := Array.getElem?_eq_getElem (show j < ops.size by rw [← hq.len]; exact hj)
          cases hlj : listed.getD j false with
          | false => rfl
          | true =>
            exfalso
            rcases hq.pair i j x y _ e hx hxj hoj with e1 | e1
            · unfold edgeTo at e1
              rw [Array.any_eq_true'] at e1
              obtain ⟨ed, hed, e2⟩ := e1
              simp only [Bool.and_eq_true, beq_iff_eq] at e2
              have hlj2 : listed.getD j true = true := by
                have hjs : j < listed.size := by rw [hs, ← hq.len]; exact hj
                rw [Array.getD_eq_getD_getElem?, Array.getElem?_eq_getElem hjs] at hlj ⊢
                simpa using hlj
              have := hdown j _ hoj hlj2 ed hed e2.2
              rw [e2.1, hnl2] at this
              cases this
            · simp only [indep, hjt, hrd, Bool.and_eq_true] at e1
              have := e1.2
              simp only [Bool.not_eq_true', List.contains_eq_mem, decide_eq_false_iff_not] at this
              exact absurd ht this
      simp only [stE]
      have : ∀ L : List Nat, (∀ j ∈ L, j < is.length) → L.find? (fun q => decide (q < i) && (is[q]?).bind (·.d) == some t) = L.find? (fun q => listed.getD q false && (is[q]?).bind (·.d) == some t) := by
        intro L
        induction L with
        | nil => intro _; rfl
        | cons j L ihL =>
          intro hL
          simp only [List.find?_cons]
          have e : (decide (j < i) && (is[j]?).bind (·.d) == some t) = (listed.getD j false && (is[j]?).bind (·.d) == some t) := by
            by_cases e2 : (is[j]?).bind (·.d) = some t
            · rw [this j (hL j (by simp)) e2]
            · rw [show ((is[j]?).bind (·.d) == some t) = false from beq_eq_false_iff_ne.2 e2, Bool.and_false, Bool.and_false]
          rw [e, ihL (fun q hq => hL q (by simp [hq]))]
      rw [this _ (fun j hj => List.mem_range.1 hj)]
    have hv : ∀ k' : AV → Prop, k' (r i) → insV P x (stE s is r (fun j => listed.getD j false)).ev (stE s is r (fun j => listed.getD j false)).objs k' := by
      intro k' hk'
      have := hdet i x hx k' hk'
      exact (insV_congr (ev := (stE s is r (fun q => decide (q < i))).ev) (ev' := (stE s is r (fun j => listed.getD j false)).ev) hl (fun _ => rfl) (fun t ht => hagree t ht)).mp this
    have hdist : ∀ (j : Nat) (y : Ins), is[j]? = some y → j ≠ i → y.d.isNone = true ∨ y.d ≠ x.d := by
      intro j y hy hji
      rcases Nat.lt_or_gt_of_ne hji with e | e
      · exact hq.dist j i y x e hy hx
      · rcases hq.dist i j x y e hx hy with e2 | e2
        · have : x.d = none := by simpa using e2
          rw [this]
          cases hxd : y.d with
          | none => exact .inl rfl
          | some _ => exact .inr (by simp)
        · exact .inr (Ne.symm e2)
    have hnext : ∀ j, (listed.setIfInBounds i true).getD j false = (listed.getD j false || j == i) := by
      intro j
      rw [Array.getD_eq_getD_getElem?, Array.getElem?_setIfInBounds]
      by_cases e : i = j
      · subst e; simp [hs, hio]
      · have e2 : (j == i) = false := by simpa using Ne.symm e
        rw [if_neg e, ← Array.getD_eq_getD_getElem?, e2, Bool.or_false]
    have hnext2 : ∀ j, j ≠ i → (listed.setIfInBounds i true).getD j true = listed.getD j true := by
      intro j e
      rw [Array.getD_eq_getD_getElem?, Array.getElem?_setIfInBounds, if_neg (Ne.symm e), ← Array.getD_eq_getD_getElem?]
    have cont : ∀ a' w' blk', Repr g ((stE s is r (fun j => listed.getD j false)).put x.d (r i)) a' w' blk' → wpAny P md ops Q fuel (listed.setIfInBounds i true) a' w' := by
      intro a' w' blk' hr'
      refine ih (listed.setIfInBounds i true) a' w' blk' (by simpa using hs) ?_ ?_ ?_
      · intro j o' hj hlj e he hb
        rw [hnext]
        by_cases e1 : j = i
        · subst e1
          rw [ho] at hj; cases hj
          rcases haft e he with e3 | e3
          · rw [binds_any hb] at e3; cases e3
          · rw [e3]; rfl
        · rw [hnext2 j e1] at hlj
          rw [hdown j o' hj hlj e he hb]; rfl
      · have e1 : stE s is r (fun j => (listed.setIfInBounds i true).getD j false) = stE s is r (fun j => listed.getD j false || j == i) := stE_congr fun j _ => ⟨hnext j, fun _ => rfl⟩
        rw [e1, stE_put hx hnl2 hdist]
        exact hr'
      · have : ((List.range ops.size).filter fun j => !listed.getD j true).length = ((List.range ops.size).filter fun j => !(listed.setIfInBounds i true).getD j true).length + 1 := by
          have hcnt : ∀ L : List Nat, L.Nodup → i ∈ L → (L.filter fun j => !listed.getD j true).length = (L.filter fun j => !(listed.setIfInBounds i true).getD j true).length + 1 := by
            intro L hnd hmem
            induction L with
            | nil => cases hmem
            | cons q L ihL =>
              rw [List.nodup_cons] at hnd
              have hset : (listed.setIfInBounds i true).getD i true = true := by
                rw [Array.getD_eq_getD_getElem?, Array.getElem?_setIfInBounds, if_pos rfl]; simp [hs, hio]
              by_cases e : q = i
              · subst e
                have same : (L.filter fun j => !listed.getD j true) = (L.filter fun j => !(listed.setIfInBounds q true).getD j true) := by
                  apply List.filter_congr
                  intro j hj
                  have : j ≠ q := fun e => hnd.1 (e ▸ hj)
                  rw [hnext2 j this]
                rw [List.filter_cons, List.filter_cons, hnl, hset, same]
                simp
              · have := ihL hnd.2 (by rcases List.mem_cons.1 hmem with e1 | e1; · exact absurd e1.symm e
                                      · exact e1)
                rw [List.filter_cons, List.filter_cons, hnext2 q e]
                split
                · rw [List.length_cons, List.length_cons, this]
                · exact this
          exact hcnt _ List.nodup_range hi1
        omega
    unfold wpOp
    rw [ho]
    rcases ins_step (ops := ops) hN hr hcx hl hv with ⟨e, hok⟩ | ⟨e, hrr⟩
    · simp only [e, if_true]
      exact .inl (hok.wp fun s' blk' a' w' hs' hr' => cont a' w' blk' (by rw [hs'] at hr'; exact hr'))
    · simp only [e]
      exact cont _ _ _ hrr

/-- A quiet region. -/
theorem regQ_sound (hN : g.N = N) {id : Nat} {is : List Ins} {K : St → Prop} {Q : Exit → Act → World → Prop} (hc : compQ P N ops = some is) (h : Repr g s a w blk) (hw : wpQ P is s K)
    (hQ : ∀ s' a' w' blk', K s' → Repr g s' a' w' blk' → Q .normal a' w') : (Code.region id ops true).wp P Q a w := by
  unfold compQ at hc
  split at hc
  · rename_i is' hci
    split at hc
    · rename_i hif
      cases hc
      rw [Bool.and_eq_true] at hif
      have hlen := (compOps_get hci).1
      have hq := quiet_info (by rw [hlen]; simp) hif.1
      have h1 : Repr g s a { w with drawn := w.drawn + 1 } blk := h.drew
      obtain ⟨r, hK, hdet⟩ := quiet_trace hN hci hq h1 hw
      refine wp_region_draw fun t => ?_
      have base : ∀ (md : Region.Mode) (rk : Nat → Nat) (t : Nat), Ranked md ops rk → wpOps P ops Q (Region.linearise md ops t) a { w with drawn := w.drawn + 1 } := by
        intro md rk t hrk
        refine wpAny_sound ops.size t _ a _ (quiet_any hrk hN hci hq hdet (fun a' w' blk' hr => hQ _ a' w' blk' hK hr) ops.size (Array.replicate ops.size false) a _ blk (by simp) ?_ ?_ ?_)
        · intro j o hj hl
          exfalso
          have hlt : j < ops.size := (Array.getElem?_eq_some_iff.1 hj).1
          rw [Array.getD_eq_getD_getElem?] at hl
          simp [hlt] at hl
        · have e : stE s is r (fun j => (Array.replicate ops.size false).getD j false) = stE s is r (fun j => decide (j < 0)) := stE_congr fun j _ => ⟨by
            rw [Array.getD_eq_getD_getElem?, Array.getElem?_replicate]
            split <;> simp, fun hj => by
            exfalso
            revert hj
            rw [Array.getD_eq_getD_getElem?, Array.getElem?_replicate]
            split <;> simp⟩
          rw [e, stE_none]
          exact h1
        · have : ((List.range ops.size).filter fun j => !(Array.replicate ops.size false).getD j true) = List.range ops.size := by
            rw [List.filter_eq_self]
            intro j hj
            have hlt := List.mem_range.1 hj
            rw [Array.getD_eq_getD_getElem?]
            simp [hlt]
          rw [this, List.length_range]

      unfold Region.schedule
      split
      · exact base .any (fun j => j) t (ranked_any hq)
      · rename_i hn
        have hd : departOk ops = true := by
          have := hif.2
          simp only [Bool.or_eq_true, Bool.not_eq_true'] at this hn
          rcases this with h1 | h1
          · exact absurd h1 (by simpa using hn)
          · exact h1
        unfold departOk at hd
        rw [Bool.and_eq_true] at hd
        split
        · exact base .text (fun j => j) _ (ranked_of hd.1)
        · exact base .gc _ _ (ranked_of hd.2)
    · cases hc
  · cases hc

end
end Go.Proofs.Ytenfgllkjgfjpaa
