/- The abstract machine, part 14: every instruction of a translated operation is sound. -/
import Derived.Test.YtenfgllkjgfjpaaCore13
set_option linter.all false
namespace Go.Proofs.Ytenfgllkjgfjpaa
open Go.RowKit

section
variable {P : Program} {g : Ghost} {o : Oper} {s : St} {a : Act} {w : World} {blk : Nat → Option Nat} {K : St → Prop}

theorem callStep_ok (h : Repr g s a w blk) (hd : ∀ i, o.dst = some i → i < g.N) {op : IOp} {c : Call} (ho : o.op = .call c) (hc : compCall P c = some op) (hK : stepI P o.dst op s K) : OpOk P g o a w K := by
  obtain ⟨callee, args, ts⟩ := c
  obtain ⟨args⟩ := args
  obtain ⟨ts⟩ := ts
  unfold compCall at hc
  simp only at hc
  split at hc
  · split at hc
    · rename_i x t
      split at hc
      · rename_i e xx ht hx
        cases hc
        exact len_ok h hd ho ht hx hK
      · rename_i xx ht hx
        cases hc
        exact slen_ok h hd ho ht hx hK
      · cases hc
    · cases hc
  · split at hc
    · rename_i x y t u
      split at hc
      · rename_i e xx yy ht hx hy
        split at hc
        · rename_i i hi
          split at hc
          · rename_i z hz
            split at hc
            · rename_i hif
              obtain ⟨rfl, h1, h2, h3⟩ := hif
              cases hc
              exact app_ok h hd ho ht hi hz h2 h3 hx hy hK
            · cases hc
          · cases hc
        · cases hc
      · cases hc
    · cases hc
  · simp only [Option.map_eq_some_iff] at hc
    obtain ⟨y, hy, rfl⟩ := hc
    exact mn_ok h hd ho hy hK
  · simp only [Option.map_eq_some_iff] at hc
    obtain ⟨y, hy, rfl⟩ := hc
    exact mx_ok h hd ho hy hK
  · rename_i f
    split at hc
    · rename_i fn ys hf hy
      split at hc
      · rename_i hif
        cases hc
        simp only [Bool.and_eq_true] at hif
        exact call_ok h hd ho hf hif.1 hif.2 hy hK
      · cases hc
    · cases hc
  · cases hc

theorem step_ok (h : Repr g s a w blk) (hd : ∀ i, o.dst = some i → i < g.N) {op : IOp} (hc : compOp P o = some op) (hK : stepI P o.dst op s K) : OpOk P g o a w K := by
  unfold compOp at hc
  split at hc
  · rename_i x ho
    simp only [Option.map_eq_some_iff] at hc
    obtain ⟨y, hy, rfl⟩ := hc
    exact mv_ok h hd (.inl ho) hy hK
  · rename_i x ho
    simp only [Option.map_eq_some_iff] at hc
    obtain ⟨y, hy, rfl⟩ := hc
    exact mv_ok h hd (.inr ho) hy hK
  · rename_i c x y ho
    split at hc
    · rename_i h1 h2 h3
      cases hc
      exact pick_ok h hd ho h1 h2 h3 hK
    · cases hc
  · rename_i bop t x y t' ho
    split at hc
    · split at hc
      · rename_i h1 h2
        cases hc
        exact bin_ok h hd ho h1 h2 hK
      · cases hc
    · rename_i ht
      split at hc
      · rename_i h1 h2
        cases hc
        exact beq_ok (neg := false) h hd ho ht h1 h2 hK
      · rename_i h1 h2
        cases hc
        exact beq_ok (neg := true) h hd ho ht h1 h2 hK
      · cases hc
    · rename_i ht
      split at hc
      · rename_i h1
        cases hc
        exact isn_ok h hd ho ht h1 hK
      · cases hc
    · cases hc
  · rename_i t x ho
    simp only [Option.map_eq_some_iff] at hc
    obtain ⟨y, hy, rfl⟩ := hc
    exact not_ok h hd ho hy hK
  · rename_i t x ho
    simp only [Option.map_eq_some_iff] at hc
    obtain ⟨y, hy, rfl⟩ := hc
    exact neg_ok h hd ho hy hK
  · rename_i t x y ho
    split at hc
    · rename_i ht h1 h2
      simp only [Option.map_eq_some_iff] at hc
      obtain ⟨k, hk, rfl⟩ := hc
      exact idx_ok h hd ho ht hk h1 h2 hK
    · rename_i ht h1 h2
      simp only [Option.map_eq_some_iff] at hc
      obtain ⟨k, hk, rfl⟩ := hc
      exact ida_ok h hd ho ht hk h1 h2 hK
    · cases hc
  · rename_i t x f ho
    split at hc
    · rename_i fs xx ht hx
      split at hc
      · rename_i fl hf
        split at hc
        · rename_i n hn
          cases hc
          exact fld_ok h hd ho ht hf hn hx hK
        · cases hc
      · cases hc
    · cases hc
  · rename_i t x ho
    split at hc
    · rename_i h1 h2 h3
      cases hc
      exact ldn_ok h hd ho h1 h3 h2 hK
    · rename_i h1 h2
      cases hc
      exact ld1_ok h hd ho h1 h2 hK
    · cases hc
  · rename_i t x v ho
    split at hc
    · rename_i h1 h2 h3 h4
      cases hc
      exact stn_ok h hd ho h4 h2 h3 hK
    · rename_i h1 h2 h3 h4
      cases hc
      exact st1_ok h hd ho h4 h2 h3 hK
    · cases hc
  · rename_i t x ho
    split at hc
    · rename_i h1 h2
      cases hc
      exact box_ok h hd ho h1 hK
    · cases hc
  · rename_i t ho
    split at hc
    · rename_i i n e hi ht
      split at hc
      · rename_i z j hz hj
        split at hc
        · rename_i y hy
          split at hc
          · rename_i cs hcs
            split at hc
            · rename_i hif
              cases hc
              simp only [Bool.and_eq_true, beq_iff_eq] at hif
              exact alloca_ok h hd ho hi hz hif.1 hif.2 hK
            · cases hc
          · cases hc
        · cases hc
      · cases hc
    · rename_i i d _ hi ht
      split at hc
      · rename_i z hz
        simp only [Option.map_eq_some_iff] at hc
        obtain ⟨zs, hzs, rfl⟩ := hc
        exact alloc_ok h hd ho hi hz hzs hK
      · cases hc
    · cases hc
  · rename_i t l c ho
    split at hc
    · rename_i e xl xc ht hl hc'
      split at hc
      · rename_i i hi
        split at hc
        · rename_i z hz
          split at hc
          · rename_i hif
            simp only [Option.map_eq_some_iff] at hc
            obtain ⟨cs, hcs, rfl⟩ := hc
            exact mks_ok h hd ho ht hi hz (zeroCs_ok hcs) hif.1 hl hc' hK
          · cases hc
        · cases hc
      · cases hc
    · cases hc
  · rename_i t n parts ho
    split at hc
    · rename_i e xs ht hx
      split at hc
      · rename_i i hi
        split at hc
        · rename_i z hz
          split at hc
          · rename_i hif
            cases hc
            exact bsl_ok h hd ho ht hi hz hx hif.1 hif.2.1 hif.2.2.1 hK
          · cases hc
        · cases hc
      · cases hc
    · cases hc
  · rename_i t parts ho
    split at hc
    · rename_i it fields hi ht
      split at hc
      · rename_i z places hz hp
        split at hc
        · rename_i ps zs hps hzs
          cases hc
          exact bld_ok h hd ho hi ht hz hp hps hzs hK
        · cases hc
      · cases hc
    · cases hc
  · rename_i t x lo hi mx ho
    split at hc
    · rename_i e xx ht hx
      split at hc
      · rename_i k y hk hl hh hm
        cases hc
        cases lo <;> simp at hl
        cases mx <;> simp at hm
        cases hi with
        | none => simp at hh
        | some y' =>
          simp only [Option.map_some, Option.some.injEq] at hh
          exact slc_ok (xl := none) (xm := none) (xh := some y) h hd ho ht hk hx (fun _ e => by cases e) (fun _ e => by cases e; exact ⟨_, rfl, hh⟩) (fun _ e => by cases e) (fun _ => rfl) (fun e => by cases e) (fun _ => rfl) hK
      · rename_i k y hk hl hh hm
        cases hc
        cases hi <;> simp at hh
        cases mx <;> simp at hm
        cases lo with
        | none => simp at hl
        | some y' =>
          simp only [Option.map_some, Option.some.injEq] at hl
          exact slc_ok (xl := some y) (xm := none) (xh := none) h hd ho ht hk hx (fun _ e => by cases e; exact ⟨_, rfl, hl⟩) (fun _ e => by cases e) (fun _ e => by cases e) (fun e => by cases e) (fun _ => rfl) (fun _ => rfl) hK
      · rename_i k y y2 hk hl hh hm
        cases hc
        cases mx <;> simp at hm
        cases lo with
        | none => simp at hl
        | some y' =>
          simp only [Option.map_some, Option.some.injEq] at hl
          cases hi with
          | none => simp at hh
          | some y2' =>
            simp only [Option.map_some, Option.some.injEq] at hh
            exact slc_ok (xl := some y) (xm := none) (xh := some y2) h hd ho ht hk hx (fun _ e => by cases e; exact ⟨_, rfl, hl⟩) (fun _ e => by cases e; exact ⟨_, rfl, hh⟩) (fun _ e => by cases e) (fun e => by cases e) (fun e => by cases e) (fun _ => rfl) hK
      · rename_i k y y2 hk hl hh hm
        cases hc
        cases lo <;> simp at hl
        cases mx with
        | none => simp at hm
        | some y' =>
          simp only [Option.map_some, Option.some.injEq] at hm
          cases hi with
          | none => simp at hh
          | some y2' =>
            simp only [Option.map_some, Option.some.injEq] at hh
            exact slc_ok (xl := none) (xm := some y2) (xh := some y) h hd ho ht hk hx (fun _ e => by cases e) (fun _ e => by cases e; exact ⟨_, rfl, hh⟩) (fun _ e => by cases e; exact ⟨_, rfl, hm⟩) (fun _ => rfl) (fun e => by cases e) (fun e => by cases e) hK
      · cases hc
    · rename_i n e xx ht hx
      split at hc
      · rename_i k y hk hl hh hm
        split at hc
        · rename_i hn
          cases hc
          cases lo <;> simp at hl
          cases mx <;> simp at hm
          cases hi with
          | none => simp at hh
          | some y' =>
            simp only [Option.map_some, Option.some.injEq] at hh
            exact sla_ok h hd ho ht hk hx hh hn hK
        · cases hc
      · cases hc
    · cases hc
  · rename_i c ho
    exact callStep_ok h hd ho hc hK
  · rename_i x i ho
    simp only [Option.map_eq_some_iff] at hc
    obtain ⟨y, hy, rfl⟩ := hc
    exact ext_ok h hd ho hy hK
  · rename_i t x i ho
    split at hc
    · rename_i ht h1 h2
      cases hc
      exact ixs_ok h hd ho ht h1 h2 hK
    · cases hc
  · cases hc

/-- The list of operations of a region, in the text's order. -/
theorem wpI_sound {N : Nat} {Q : Exit → Act → World → Prop} {ops : Array Oper} (hN : g.N = N) : ∀ {l : List Oper} {is : List Ins} {s : St} {a : Act} {w : World} {blk : Nat → Option Nat} {K : St → Prop}, compOps P N ops l = some is → Repr g s a w blk → wpI P is s K →
    (∀ s' blk' a' w', K s' → Repr g s' a' w' blk' → Q .normal a' w') → wpList P ops Q l a w
  | [], is, s, a, w, blk, K, hc, h, hK, hQ => by
    cases hc
    exact hQ _ _ _ _ hK h
  | o :: l, is, s, a, w, blk, K, hc, h, hK, hQ => by
    simp only [compOps] at hc
    split at hc
    · rename_i i is' h1 h2
      cases hc
      have ih := fun {s : St} {a : Act} {w : World} {blk : Nat → Option Nat} {K : St → Prop} => wpI_sound (Q := Q) (ops := ops) hN (l := l) (is := is') (s := s) (a := a) (w := w) (blk := blk) (K := K) h2
      have hd : ∀ i, o.dst = some i → i < g.N := by
        intro j hj
        unfold compIns at h1
        split at h1
        · split at h1
          · rename_i e; rw [e] at hj; cases hj
          · rename_i d e
            by_cases hlt : d < N
            · rw [e] at hj; cases hj; rw [hN]; exact hlt
            · rw [if_neg hlt] at h1; cases h1
        · cases h1
      obtain ⟨op, hop, hid, hiop, hg⟩ : ∃ op, compOp P o = some op ∧ i.d = o.dst ∧ i.op = op ∧ ((o.guard = none ∧ i.g = none) ∨ ∃ j want t, o.guard = some (j, want) ∧ (ops[j]?).bind (·.dst) = some t ∧ i.g = some (t, want)) := by
        unfold compIns at h1
        split at h1
        · rename_i op hop
          refine ⟨op, hop, ?_⟩
          split at h1
          · rename_i e
            split at h1
            · rename_i eg; cases h1; exact ⟨e.symm, rfl, .inl ⟨eg, rfl⟩⟩
            · rename_i j want eg
              simp only [Option.map_eq_some_iff] at h1
              obtain ⟨t, ht, rfl⟩ := h1
              exact ⟨e.symm, rfl, .inr ⟨j, want, t, eg, ht, rfl⟩⟩
          · rename_i d e
            split at h1
            · split at h1
              · rename_i eg; cases h1; exact ⟨e.symm, rfl, .inl ⟨eg, rfl⟩⟩
              · rename_i j want eg
                simp only [Option.map_eq_some_iff] at h1
                obtain ⟨t, ht, rfl⟩ := h1
                exact ⟨e.symm, rfl, .inr ⟨j, want, t, eg, ht, rfl⟩⟩
            · cases h1
        · cases h1
      have doit : stepI P o.dst op s (fun s' => wpI P is' s' K) → o.wp P a w (wpList P ops Q l) Q := fun hs =>
        (step_ok h hd hop hs).wp fun s' blk' a' w' k r => ih r k hQ
      have skip : wpI P is' (s.put o.dst .und) K → wpList P ops Q l (a.put o.dst undef) w := fun hs =>
        ih (h.put hd (v := undef) (x := .und) (show undef = undef from rfl)) hs hQ
      rcases hg with ⟨e1, e2⟩ | ⟨j, want, t, e1, e2, e3⟩
      · unfold wpList
        rw [if_pos (by simp [Region.wanted, e1])]
        simp only [wpI, e2, hid, hiop] at hK
        exact .inl (doit hK)
      · simp only [wpI, e3, hid, hiop] at hK
        have hy : ∀ v : Bool, a.tmps.getD t undef = .bool v → yielded ops a.tmps j = some v := by
          intro v hv
          unfold yielded
          rw [e2]
          simp only [Option.bind_some]
          have : a.tmps[t]? = some (.bool v) := by
            rw [Array.getD_eq_getD_getElem?] at hv
            cases hq : a.tmps[t]? with
            | none => rw [hq] at hv; simp [undef] at hv
            | some u => rw [hq] at hv; simp at hv; rw [hv]
          rw [this]
        have hen := h.at_ t
        unfold guardP at hK
        split at hK
        · rename_i v hv
          rw [hv] at hen
          have hb := hen.bool
          unfold wpList
          by_cases e : v = want
          · rw [if_pos (by simp [Region.wanted, e1, hy v hb, e])]
            exact .inl (doit (hK.1 e))
          · rw [if_neg (by simp [Region.wanted, e1, hy v hb, e])]
            exact skip (hK.2 (by cases v <;> cases want <;> simp_all))
        · rename_i hv
          rw [hv] at hen
          have hu : a.tmps.getD t undef = undef := hen
          have hyn : yielded ops a.tmps j = none := by
            unfold yielded
            rw [e2]
            simp only [Option.bind_some]
            cases hq : a.tmps[t]? with
            | none => rfl
            | some u =>
              have : u = undef := by rw [Array.getD_eq_getD_getElem?, hq] at hu; simpa using hu
              rw [this]; rfl
          unfold wpList
          rw [if_neg (by simp [Region.wanted, e1, hyn])]
          exact skip hK
        · exact hK.elim
    · cases hc

end
end Go.Proofs.Ytenfgllkjgfjpaa
