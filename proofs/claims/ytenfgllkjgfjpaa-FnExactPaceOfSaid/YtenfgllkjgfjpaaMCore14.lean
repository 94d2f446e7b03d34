/- The abstract machine, part 14: every instruction of a translated operation is sound. -/
import Derived.Test.YtenfgllkjgfjpaaMCore13
import Derived.Laws.BytesString
set_option linter.all false
namespace Go.Proofs.Ytenfgllkjgfjpaa
open Go.RowKit

section
variable {P : Program} {g : Ghost} {o : Oper} {s : St} {a : Act} {w : World} {blk : Lay} {K : St → Prop}

theorem fold_push : ∀ (l : List UInt8) (acc : ByteArray), (l.map fun b => (b.toNat : Int)).foldl (fun r n => r.push (UInt8.ofNat n.toNat)) acc = ⟨acc.data ++ l.toArray⟩
  | [], acc => by simp
  | b :: l, acc => by
    simp only [List.map_cons, List.foldl_cons]
    rw [fold_push l]
    have : (acc.push (UInt8.ofNat (b.toNat : Int).toNat)).data = acc.data.push b := by
      simp [ByteArray.push]
    rw [this]
    simp
theorem src_max (h : Repr g s a w blk) {v : Value} {y : AV} {k : Nat} {new : List (List C)} (hv : RVs g s w blk v y) (hs : srcRows s k y = some new) : new.length ≤ maxLen := by
  have rd : ∀ rows, Rd w (Good g s.objs blk w) v (.sl k rows) → rows.length ≤ maxLen := by
    intro rows hr
    cases hr; omega
  unfold srcRows at hs
  split at hs
  · split at hs
    · rename_i e; subst e; cases hs; exact rd _ hv.c
    · cases hs
  · split at hs
    · rename_i e; subst e; cases hs; obtain ⟨_, _, _, hr⟩ := hv; exact rd _ hr
    · cases hs
  · split at hs
    · split at hs
      · cases hs
        obtain ⟨m, _, hn, hval⟩ := hv
        rcases hval with ⟨_, h0, _⟩ | ⟨_, _, _, _, _, _, h1, h2, _⟩
        · rw [List.length_take]; unfold maxLen; omega
        · rw [List.length_take]; omega
      · cases hs
    · cases hs
  · split at hs
    · split at hs
      · cases hs
        obtain ⟨m, A, c, _, _, _, h1, h2, _⟩ := hv
        rw [List.length_take]; omega
      · cases hs
    · cases hs
  · cases hs; simp
  · cases hs

theorem cvt_ok (h : Repr g s a w blk) (hd : ∀ i, o.dst = some i → i < g.N) {n : Nat} {t u : TypeId} {p : Operand} {xp : X} (ho : o.op = .convert t u p)
    (hn : (n = 0 ∧ (isByte P t || isInt P t) = true ∧ isInt P u = true) ∨ (n = 1 ∧ (isByte P t || isInt P t) = true ∧ isByte P u = true) ∨ (n = 2 ∧ ∃ e, P.underlying t = some (.slice e) ∧ P.underlying u = some .string ∧ isByte P e = true))
    (hp : cx p = some xp) (hK : cvtP n s (s.ev xp) fun v => K (s.put o.dst v)) : OpOk P g o a w K := by
  have ep := h.ev hp
  have hint : ∀ {t : TypeId}, isInt P t = true → P.underlying t = some (.int .i64) := by
    intro t ht; unfold isInt at ht; split at ht
    · assumption
    · cases ht
  have hbyte : ∀ {t : TypeId}, isByte P t = true → P.underlying t = some (.int .u8) := by
    intro t ht; unfold isByte at ht; split at ht
    · assumption
    · cases ht
  have hsrc : (isByte P t || isInt P t) = true → ∃ k, P.underlying t = some (.int k) := by
    intro ht
    simp only [Bool.or_eq_true] at ht
    rcases ht with ht | ht
    · exact ⟨_, hbyte ht⟩
    · exact ⟨_, hint ht⟩
  have run : ∀ (k k' : IntKind) (m : Int), (∃ k0, P.underlying t = some (.int k0)) → P.underlying u = some (.int k') → a.eval p = .int k m → (execOp a.eval o).run P w = .ok (.value (.int k' (k'.wrap m))) w := by
    intro k k' m ⟨k0, h0⟩ h1 e1
    simp [execOp, ho, e1, convert, run_underlying h0, run_underlying h1, Conv.intToInt]
  rcases hn with ⟨rfl, h0, h1⟩ | ⟨rfl, h0, h1⟩ | ⟨rfl, e, h0, h1, h2⟩
  · unfold cvtP at hK
    simp only at hK
    split at hK
    · rename_i m hm
      rw [hm] at ep
      obtain ⟨e1, hlt⟩ := ep.byte
      refine OpOk.val2 h hd hK (run _ _ _ (hsrc h0) (hint h1) e1) ?_
      rw [wrap_inI (by unfold inI; omega)]
      exact .mkI (by unfold inI; omega)
    · rename_i m hm
      rw [hm] at ep
      obtain ⟨e1, hin⟩ := ep.int
      refine OpOk.val2 h hd hK (run _ _ _ (hsrc h0) (hint h1) e1) ?_
      rw [wrap_inI hin]
      exact .mkI hin
    · exact hK.elim
  · unfold cvtP at hK
    simp only at hK
    split at hK
    · rename_i m hm
      rw [hm] at ep
      obtain ⟨e1, hlt⟩ := ep.byte
      refine OpOk.val2 h hd hK (run _ _ _ (hsrc h0) (hbyte h1) e1) ?_
      rw [wrap_u8, show (m : Int) % 256 = m by omega]
      exact .mk (.u hlt)
    · rename_i m hm
      rw [hm] at ep
      obtain ⟨e1, hin⟩ := ep.int
      refine OpOk.val2 h hd hK (run _ _ _ (hsrc h0) (hbyte h1) e1) ?_
      rw [wrap_u8, show m % 256 = ((m % 256).toNat : Int) by omega]
      exact .mk (.u (by omega))
    · exact hK.elim
  · unfold cvtP at hK
    simp only at hK
    split at hK
    · rename_i rows hrows
      obtain ⟨l, rfl, hK⟩ := hK
      obtain ⟨A, c, news, hA, n0, n0', n1, n2, n3, n4, n5⟩ := (src_ok h ep hrows).news
      have hnews : news = l.map fun b => Value.int .u8 b.toNat := by
        apply List.ext_getElem?
        intro q
        rcases Nat.lt_or_ge q l.length with hq | hq
        · obtain ⟨z, hz, hr⟩ := n5 q [.u l[q].toNat] 0 (.u l[q].toNat) (by simp [uenc, hq]) rfl
          simp only [Nat.mul_one, Nat.add_zero] at hz
          cases hr
          rw [hz]; simp [hq]
        · rw [List.getElem?_eq_none (by rw [n1]; simpa using hq), List.getElem?_eq_none (by simpa using hq)]
      have hmax : l.length ≤ maxLen := by have := src_max h ep hrows; simpa using this
      have hcv : (convert t u (.slice A (l.map uenc).length c)).run P w = .ok (.string ⟨l.toArray⟩) w := by
        have hcs : (convert t u (.slice A (l.map uenc).length c)).run P w = (Conv.bytesToString (.slice A (l.map uenc).length c)).run P w := by
          simp [convert, run_underlying h0, run_underlying h1, run_underlying (hbyte h2)]
        rw [hcs, List.length_map]
        cases A with
        | none =>
          have : l = [] := by have := n0 rfl; simpa using this
          subst this
          rfl
        | some ad =>
          have hld := run_loadCells_list (P := P) w ad news (n2 ad rfl)
          rw [hnews, List.length_map, show (l.map fun b => Value.int .u8 b.toNat) = (l.map fun b => (b.toNat : Int)).map (Value.int .u8) by rw [List.map_map]; rfl] at hld
          rw [run_bytesToString w ad l.length c _ hld, fold_push]
          simp
      have hrun : (execOp a.eval o).run P w = .ok (.value (.string ⟨l.toArray⟩)) w := by
        simp only [execOp, ho, hA, Sem.run_bind, hcv, Result.andThen_ok, Sem.run_pure]
      exact OpOk.val2 h hd hK hrun (.mk (.s (by simpa [ByteArray.size] using hmax)))
    · exact hK.elim

theorem cp_ok (h : Repr g s a w blk) (hd : ∀ i, o.dst = some i → i < g.N) {t e : TypeId} {k : Nat} {p q : Operand} {xp xq : X} (ho : o.op = .call { callee := .builtin .copy, args := #[p, q], argTypes := #[t, t] })
    (ht : P.underlying t = some (.slice e)) (hk : szOf P e = some k)
    (hp : cx p = some xp) (hq : cx q = some xq) (hK : cpP k s o.dst (s.ev xp) (s.ev xq) K) : OpOk P g o a w K := by
  obtain ⟨i, hi, rfl⟩ := szOf_some hk
  have ep := h.ev hp; have eq := h.ev hq
  have run : ∀ r w', (Builtin.copy_ #[t, t] o.type #[a.eval p, a.eval q]).run P w = .ok r w' → (execOp a.eval o).run P w = .ok (.value r) w' := by
    intro r w' hr
    simp [execOp, ho, resolve, invoke, builtin, hr]
  unfold cpP at hK
  split at hK
  · rename_i new hnew
    obtain ⟨A, c, news, hA, n0, n0', n1, n2, n3, n4, n5⟩ := (src_ok h eq hnew).news
    split at hK
    · rename_i id k' n hx
      split at hK
      · rename_i k2 rows hO
        obtain ⟨rfl, hle, hK⟩ := hK
        rw [hx] at ep
        obtain ⟨m, hdim, hn, hval⟩ := ep
        have hk2 : k2 = i.size ∧ rows.length = m := by
          have : (s.ob id).dims = some (i.size, m) := hdim
          rw [hO] at this; simpa [Obj.dims] using this
        obtain ⟨rfl, rfl⟩ := hk2
        have hlive : s.ob id ≠ .none := by rw [hO]; simp
        have hmin : min new.length n * i.size ≤ news.length := by rw [n1]; exact Nat.mul_le_mul_right _ (by omega)
        have hgi : ∀ (x : Nat), goInt x = .int .i64 x := fun _ => rfl
        have hcpl : (news.take (min new.length n * i.size)).length = min new.length n * i.size := by simp; omega
        rcases hval with ⟨hb, rfl, A0, hv⟩ | ⟨b, cap, arr, e', hb, hv, h1, h2, h3, h4⟩
        · have hr := run_copy (P := P) w t o.type e i ht hi (B := A0) (A := A) (n := 0) (bc := 0) (m := new.length) (c := c) (news := []) (by simp) (fun e => by simp) (fun _ _ j u hu => by simp at hu) (w' := w) (fun b _ => by simp [storeCells]) (fun _ => rfl)
          rw [← hv, ← hA] at hr
          have e1 : new.take 0 ++ rows.drop (min new.length 0) = rows := by simp
          rw [e1] at hK
          refine ⟨_, _, run _ _ hr, _, blk, hK, ?_⟩
          have : s.setOb id (.row i.size rows) = s := by
            unfold St.setOb
            congr 1
            funext x
            unfold upd
            split
            · rename_i hx'; rw [hx']; exact hO.symm
            · rfl
          rw [this]
          refine h.put hd ?_
          rw [hgi]
          exact .mkI (by unfold inI; omega)
        · obtain ⟨arr', e2, r1, r2, r3, r4⟩ := h.row hO hb
          rw [h3] at r1; cases r1
          have hfit : 0 + (news.take (min new.length n * i.size)).length ≤ arr.size := by
            rw [hcpl, Nat.zero_add]
            exact Nat.le_trans (Nat.mul_le_mul_right _ (by omega)) h4
          have hst := run_storeCells_at P b 0 e' (news.take (min new.length n * i.size)) 0 arr w h3 (by simpa using hfit) (fun u hu => n3 u (List.mem_of_mem_take hu))
          simp only [Nat.add_zero, Nat.zero_add] at hst
          have hr := run_copy (P := P) w t o.type e i ht hi (B := some ⟨b, 0, none⟩) (A := A) (n := n) (bc := cap) (m := new.length) (c := c) (news := news.take (min new.length n * i.size)) hcpl (fun e => by rw [n0 e]; simp) (fun ad had j u hu => by
            rw [List.getElem?_take] at hu
            split at hu
            · exact n2 ad had j u hu
            · cases hu) (fun b0 hb0 => by cases hb0; exact hst) (fun e => by cases e)
          rw [← hv, ← hA] at hr
          refine ⟨_, _, run _ _ hr, _, blk, hK, ?_⟩
          have hsz2 : (arr.toList.take 0 ++ news.take (min new.length n * i.size) ++ arr.toList.drop (0 + (news.take (min new.length n * i.size)).length)).toArray.size = arr.size := size_splice arr _ 0 _ rfl hfit
          have hre := h.setRow (o' := .row i.size (new.take n ++ rows.drop (min new.length n))) hlive hb h3 hsz2 (by rw [hO]; exact ⟨_, rfl, by simp; omega⟩) (fun k v rows e => by rw [hO] at e; cases e) (fun w' G' O' KK hh _ => by
            refine .inr ⟨b, _, e', rfl, hh, by rw [hsz2]; simp; refine Nat.le_trans (Nat.mul_le_mul_right _ ?_) r2; omega, fun r hr => ?_, fun i2 r j c2 hr hc => ?_⟩
            · rcases List.mem_append.1 hr with h5 | h5
              · exact n4 r (List.mem_of_mem_take h5)
              · exact r3 r (List.mem_of_mem_drop h5)
            · rw [splice_get _ _ _ _ rfl hfit, if_neg (by omega), hcpl]
              simp only [Nat.zero_add, Nat.sub_zero]
              by_cases hi2 : i2 < min new.length n
              · rw [List.getElem?_append_left (by simp; omega), List.getElem?_take, if_pos (by omega)] at hr
                obtain ⟨u, hu, hru⟩ := n5 i2 r j c2 hr hc
                have hj : j < i.size := by rw [← n4 r (List.mem_of_getElem? hr)]; exact (List.getElem?_eq_some_iff.1 hc).1
                have h5 : (i2 + 1) * i.size ≤ min new.length n * i.size := Nat.mul_le_mul_right _ hi2
                rw [Nat.add_mul, Nat.one_mul] at h5
                exact ⟨u, by rw [if_pos (by omega), List.getElem?_take, if_pos (by omega)]; exact hu, Rd.mono hru KK.good KK.cell⟩
              · rw [List.getElem?_append_right (by simp; omega), List.getElem?_drop, List.length_take] at hr
                rw [show min new.length n + (i2 - min n new.length) = i2 by omega] at hr
                obtain ⟨u, hu, hru⟩ := r4 i2 r j c2 hr hc
                have h5 : min new.length n * i.size ≤ i2 * i.size := Nat.mul_le_mul_right _ (by omega)
                exact ⟨u, by rw [if_neg (by omega)]; exact hu, hru.mono KK.good KK.cell⟩)
          simp only [Nat.zero_add] at hre
          refine hre.put hd ?_
          rw [hgi]
          exact .mkI (by unfold maxLen at h2; unfold inI; omega)
      · exact hK.elim
    · exact hK.elim
  · exact hK.elim

theorem callStep_ok (h : Repr g s a w blk) (hd : ∀ i, o.dst = some i → i < g.N) {op : IOp} {c : Call} (ho : o.op = .call c) (hc : compCall P c = some op) (hK : stepI P o.dst op s K) : OpOk P g o a w K := by
  obtain ⟨callee, args, ts⟩ := c
  obtain ⟨args⟩ := args
  obtain ⟨ts⟩ := ts
  unfold compCall at hc
  simp only at hc
  split at hc
  · split at hc
    · rename_i x t
      split at hc
      · rename_i e xx ht hx
        cases hc
        exact len_ok h hd ho ht hx hK
      · rename_i xx ht hx
        cases hc
        exact slen_ok h hd ho ht hx hK
      · cases hc
    · cases hc
  · split at hc
    · rename_i x y t u
      split at hc
      · rename_i e xx yy ht hx hy
        split at hc
        · rename_i i hi
          split at hc
          · rename_i z hz
            split at hc
            · rename_i hif
              obtain ⟨rfl, h1, h2, h3⟩ := hif
              cases hc
              exact app_ok h hd ho ht hi hz h2 h3 hx hy hK
            · cases hc
          · cases hc
        · cases hc
      · cases hc
    · cases hc
  · simp only [Option.map_eq_some_iff] at hc
    obtain ⟨y, hy, rfl⟩ := hc
    exact mn_ok h hd ho hy hK
  · simp only [Option.map_eq_some_iff] at hc
    obtain ⟨y, hy, rfl⟩ := hc
    exact mx_ok h hd ho hy hK
  · split at hc
    · rename_i x t
      split at hc
      · rename_i e xx ht hx
        cases hc
        exact cap_ok h hd ho ht hx hK
      · cases hc
    · cases hc
  · split at hc
    · rename_i x y t u
      split at hc
      · rename_i e xx yy ht hx hy
        split at hc
        · rename_i e2
          subst e2
          split at hc
          · rename_i k hk
            cases hc
            exact cp_ok h hd ho ht hk hx hy hK
          · cases hc
        · cases hc
      · cases hc
    · cases hc
  · rename_i f
    split at hc
    · rename_i fn ys hf hy
      split at hc
      · rename_i hif
        cases hc
        simp only [Bool.and_eq_true] at hif
        refine call_ok h hd ho hf hif.1 hif.2 ?_ hK
        split at hy
        · rename_i xs hxs; cases hy; exact .inl hxs
        · exact .inr hy
      · cases hc
    · cases hc
  · rename_i f _
    split at hc
    · rename_i x xs hx hxs
      cases hc
      exact callv_ok h hd ho hx hxs hK
    · cases hc
  · cases hc

theorem step_ok (h : Repr g s a w blk) (hd : ∀ i, o.dst = some i → i < g.N) {op : IOp} (hc : compOp P o = some op) (hK : stepI P o.dst op s K) : OpOk P g o a w K := by
  unfold compOp at hc
  split at hc
  · rename_i x ho
    simp only [Option.map_eq_some_iff] at hc
    obtain ⟨y, hy, rfl⟩ := hc
    exact mv_ok h hd (.inl ho) hy hK
  · rename_i x ho
    simp only [Option.map_eq_some_iff] at hc
    obtain ⟨y, hy, rfl⟩ := hc
    exact mv_ok h hd (.inr ho) hy hK
  · rename_i c x y ho
    split at hc
    · rename_i h1 h2 h3
      cases hc
      exact pick_ok h hd ho h1 h2 h3 hK
    · cases hc
  · rename_i bop t x y t' ho
    split at hc
    · rename_i ik ht
      split at hc
      · rename_i h1 h2
        split at hc
        · cases hc; exact bit_ok h hd ho h1 h2 hK
        · cases hc; exact bit_ok h hd ho h1 h2 hK
        · cases hc; exact bit_ok h hd ho h1 h2 hK
        · cases hc; exact bit_ok h hd ho h1 h2 hK
        · split at hc
          · cases hc; exact binu_ok h hd ho h1 h2 hK
          · split at hc
            · cases hc; exact binw_ok h hd ho h1 h2 hK
            · cases hc; exact bin_ok h hd ho h1 h2 hK
      · rename_i h1 h2
        simp only [Option.map_eq_some_iff] at hc
        obtain ⟨n, hn, rfl⟩ := hc
        exact bitc_ok h hd ho h1 hn hK
      · cases hc
    · rename_i ht
      split at hc
      · rename_i h1 h2
        cases hc
        exact seq_ok (neg := false) h hd ho ht h1 h2 hK
      · rename_i h1 h2
        cases hc
        exact seq_ok (neg := true) h hd ho ht h1 h2 hK
      · rename_i h1 h2
        cases hc
        exact scat_ok h hd ho ht h1 h2 hK
      · cases hc
    · rename_i ht
      split at hc
      · rename_i h1 h2
        cases hc
        exact beq_ok (neg := false) h hd ho ht h1 h2 hK
      · rename_i h1 h2
        cases hc
        exact beq_ok (neg := true) h hd ho ht h1 h2 hK
      · cases hc
    · rename_i ht
      split at hc
      · rename_i h1
        cases hc
        exact isn_ok h hd ho ht h1 hK
      · cases hc
    · cases hc
  · rename_i t x ho
    simp only [Option.map_eq_some_iff] at hc
    obtain ⟨y, hy, rfl⟩ := hc
    exact not_ok h hd ho hy hK
  · rename_i t x ho
    simp only [Option.map_eq_some_iff] at hc
    obtain ⟨y, hy, rfl⟩ := hc
    exact neg_ok h hd ho hy hK
  · rename_i t x y ho
    split at hc
    · rename_i ht h1 h2
      simp only [Option.map_eq_some_iff] at hc
      obtain ⟨k, hk, rfl⟩ := hc
      exact idx_ok h hd ho ht hk h1 h2 hK
    · rename_i ht h1 h2
      simp only [Option.map_eq_some_iff] at hc
      obtain ⟨k, hk, rfl⟩ := hc
      exact ida_ok h hd ho ht hk h1 h2 hK
    · cases hc
  · rename_i t x f ho
    split at hc
    · rename_i fs xx ht hx
      split at hc
      · rename_i fl hf
        split at hc
        · rename_i n hn
          cases hc
          exact fld_ok h hd ho ht hf hn hx hK
        · cases hc
      · cases hc
    · cases hc
  · rename_i t x ho
    split at hc
    · rename_i h1 h2 h3
      cases hc
      exact ldn_ok h hd ho h1 h3 h2 hK
    · rename_i h1 h2
      cases hc
      exact ld1_ok h hd ho h1 h2 hK
    · cases hc
  · rename_i t x v ho
    split at hc
    · rename_i h1 h2 h3 h4
      cases hc
      exact stn_ok h hd ho h4 h2 h3 hK
    · rename_i h1 h2 h3 h4
      cases hc
      exact st1_ok h hd ho h4 h2 h3 hK
    · cases hc
  · rename_i t x ho
    split at hc
    · rename_i h1 h2
      cases hc
      exact box_ok h hd ho h1 hK
    · cases hc
  · rename_i t ho
    split at hc
    · rename_i i n e hi ht
      split at hc
      · rename_i z j hz hj
        split at hc
        · rename_i y hy
          split at hc
          · rename_i cs hcs
            split at hc
            · rename_i hif
              cases hc
              simp only [Bool.and_eq_true, beq_iff_eq] at hif
              exact alloca_ok h hd ho hi hz hif.1 hif.2 hK
            · cases hc
          · cases hc
        · cases hc
      · cases hc
    · rename_i i d _ hi ht
      split at hc
      · rename_i z hz
        simp only [Option.map_eq_some_iff] at hc
        obtain ⟨zs, hzs, rfl⟩ := hc
        exact alloc_ok h hd ho hi hz hzs hK
      · cases hc
    · cases hc
  · rename_i t l c ho
    split at hc
    · rename_i e xl xc ht hl hc'
      split at hc
      · rename_i i hi
        split at hc
        · rename_i z hz
          split at hc
          · rename_i hif
            simp only [Option.map_eq_some_iff] at hc
            obtain ⟨cs, hcs, rfl⟩ := hc
            exact mks_ok h hd ho ht hi hz (zeroCs_ok hcs) hif.1 hl hc' hK
          · cases hc
        · cases hc
      · cases hc
    · cases hc
  · rename_i t n parts ho
    split at hc
    · rename_i e xs ht hx
      split at hc
      · rename_i i hi
        split at hc
        · rename_i z hz
          split at hc
          · rename_i hif
            cases hc
            exact bsl_ok h hd ho ht hi hz hx hif.1 hif.2.1 hif.2.2.1 hK
          · cases hc
        · cases hc
      · cases hc
    · cases hc
  · rename_i t parts ho
    split at hc
    · rename_i it fields hi ht
      split at hc
      · rename_i z places hz hp
        split at hc
        · rename_i ps zs hps hzs
          cases hc
          exact bld_ok h hd ho hi ht hz hp hps hzs hK
        · cases hc
      · cases hc
    · cases hc
  · rename_i t x lo hi mx ho
    split at hc
    · rename_i e xx ht hx
      split at hc
      · rename_i k y hk hl hh hm
        cases hc
        cases lo <;> simp at hl
        cases mx <;> simp at hm
        cases hi with
        | none => simp at hh
        | some y' =>
          simp only [Option.map_some, Option.some.injEq] at hh
          exact slc_ok (xl := none) (xm := none) (xh := some y) h hd ho ht hk hx (fun _ e => by cases e) (fun _ e => by cases e; exact ⟨_, rfl, hh⟩) (fun _ e => by cases e) (fun _ => rfl) (fun e => by cases e) (fun _ => rfl) hK
      · rename_i k y hk hl hh hm
        cases hc
        cases hi <;> simp at hh
        cases mx <;> simp at hm
        cases lo with
        | none => simp at hl
        | some y' =>
          simp only [Option.map_some, Option.some.injEq] at hl
          exact slc_ok (xl := some y) (xm := none) (xh := none) h hd ho ht hk hx (fun _ e => by cases e; exact ⟨_, rfl, hl⟩) (fun _ e => by cases e) (fun _ e => by cases e) (fun e => by cases e) (fun _ => rfl) (fun _ => rfl) hK
      · rename_i k y y2 hk hl hh hm
        cases hc
        cases mx <;> simp at hm
        cases lo with
        | none => simp at hl
        | some y' =>
          simp only [Option.map_some, Option.some.injEq] at hl
          cases hi with
          | none => simp at hh
          | some y2' =>
            simp only [Option.map_some, Option.some.injEq] at hh
            exact slc_ok (xl := some y) (xm := none) (xh := some y2) h hd ho ht hk hx (fun _ e => by cases e; exact ⟨_, rfl, hl⟩) (fun _ e => by cases e; exact ⟨_, rfl, hh⟩) (fun _ e => by cases e) (fun e => by cases e) (fun e => by cases e) (fun _ => rfl) hK
      · rename_i k y y2 hk hl hh hm
        cases hc
        cases lo <;> simp at hl
        cases mx with
        | none => simp at hm
        | some y' =>
          simp only [Option.map_some, Option.some.injEq] at hm
          cases hi with
          | none => simp at hh
          | some y2' =>
            simp only [Option.map_some, Option.some.injEq] at hh
            exact slc_ok (xl := none) (xm := some y2) (xh := some y) h hd ho ht hk hx (fun _ e => by cases e) (fun _ e => by cases e; exact ⟨_, rfl, hh⟩) (fun _ e => by cases e; exact ⟨_, rfl, hm⟩) (fun _ => rfl) (fun e => by cases e) (fun e => by cases e) hK
      · cases hc
    · rename_i n e xx ht hx
      split at hc
      · rename_i k y hk hl hh hm
        split at hc
        · rename_i hn
          cases hc
          cases lo <;> simp at hl
          cases mx <;> simp at hm
          cases hi with
          | none => simp at hh
          | some y' =>
            simp only [Option.map_some, Option.some.injEq] at hh
            exact sla_ok h hd ho ht hk hx hh hn hK
        · cases hc
      · cases hc
    · rename_i xx ht hx
      split at hc
      · rename_i y hl hh
        cases hc
        cases lo <;> simp at hl
        cases hi with
        | none => simp at hh
        | some y' =>
          simp only [Option.map_some, Option.some.injEq] at hh
          exact sls_ok (xl := none) (xh := some y) h hd ho ht hx (fun _ e => by cases e) (fun _ e => by cases e; exact ⟨_, rfl, hh⟩) (fun _ => rfl) (fun e => by cases e) hK
      · rename_i y hl hh
        cases hc
        cases hi <;> simp at hh
        cases lo with
        | none => simp at hl
        | some y' =>
          simp only [Option.map_some, Option.some.injEq] at hl
          exact sls_ok (xl := some y) (xh := none) h hd ho ht hx (fun _ e => by cases e; exact ⟨_, rfl, hl⟩) (fun _ e => by cases e) (fun e => by cases e) (fun _ => rfl) hK
      · rename_i y y2 hl hh
        cases hc
        cases lo with
        | none => simp at hl
        | some y' =>
          simp only [Option.map_some, Option.some.injEq] at hl
          cases hi with
          | none => simp at hh
          | some y2' =>
            simp only [Option.map_some, Option.some.injEq] at hh
            exact sls_ok (xl := some y) (xh := some y2) h hd ho ht hx (fun _ e => by cases e; exact ⟨_, rfl, hl⟩) (fun _ e => by cases e; exact ⟨_, rfl, hh⟩) (fun e => by cases e) (fun e => by cases e) hK
      · cases hc
    · cases hc
  · rename_i x ho
    simp only [Option.map_eq_some_iff] at hc
    obtain ⟨y, hy, rfl⟩ := hc
    exact nck_ok h hd ho hy hK
  · rename_i t u x ho
    split at hc
    · rename_i y hy
      split at hc
      · rename_i hif
        cases hc
        simp only [Bool.and_eq_true] at hif
        exact cvt_ok h hd ho (.inl ⟨rfl, hif.1, hif.2⟩) hy hK
      · split at hc
        · rename_i hif
          cases hc
          simp only [Bool.and_eq_true] at hif
          exact cvt_ok h hd ho (.inr (.inl ⟨rfl, hif.1, hif.2⟩)) hy hK
        · split at hc
          · rename_i e h1 h2
            split at hc
            · rename_i hb
              cases hc
              exact cvt_ok h hd ho (.inr (.inr ⟨rfl, e, h1, h2, hb⟩)) hy hK
            · cases hc
          · cases hc
    · cases hc
  · rename_i f first captured ho
    split at hc
    · rename_i xs hf hx
      cases hc
      exact mkf_ok h hd ho hf hx hK.1 hK.2
    · cases hc
  · cases hc; exact hK.elim
  · cases hc; exact hK.elim
  · rename_i c ho
    exact callStep_ok h hd ho hc hK
  · rename_i x i ho
    simp only [Option.map_eq_some_iff] at hc
    obtain ⟨y, hy, rfl⟩ := hc
    exact ext_ok h hd ho hy hK
  · rename_i t x i ho
    split at hc
    · rename_i ht h1 h2
      cases hc
      exact ixs_ok h hd ho ht h1 h2 hK
    · cases hc
  · cases hc

/-- The list of operations of a region, in the text's order. -/
theorem wpI_sound {N : Nat} {Q : Exit → Act → World → Prop} {ops : Array Oper} (hN : g.N = N) : ∀ {l : List Oper} {is : List Ins} {s : St} {a : Act} {w : World} {blk : Lay} {K : St → Prop}, compOps P N ops l = some is → Repr g s a w blk → wpI P is s K →
    (∀ s' blk' a' w', K s' → Repr g s' a' w' blk' → Q .normal a' w') → wpList P ops Q l a w
  | [], is, s, a, w, blk, K, hc, h, hK, hQ => by
    cases hc
    exact hQ _ _ _ _ hK h
  | o :: l, is, s, a, w, blk, K, hc, h, hK, hQ => by
    simp only [compOps] at hc
    split at hc
    · rename_i i is' h1 h2
      cases hc
      have ih := fun {s : St} {a : Act} {w : World} {blk : Lay} {K : St → Prop} => wpI_sound (Q := Q) (ops := ops) hN (l := l) (is := is') (s := s) (a := a) (w := w) (blk := blk) (K := K) h2
      have hd : ∀ i, o.dst = some i → i < g.N := by
        intro j hj
        unfold compIns at h1
        split at h1
        · split at h1
          · rename_i e; rw [e] at hj; cases hj
          · rename_i d e
            by_cases hlt : d < N
            · rw [e] at hj; cases hj; rw [hN]; exact hlt
            · rw [if_neg hlt] at h1; cases h1
        · cases h1
      obtain ⟨op, hop, hid, hiop, hg⟩ : ∃ op, compOp P o = some op ∧ i.d = o.dst ∧ i.op = op ∧ ((o.guard = none ∧ i.g = none) ∨ ∃ j want t, o.guard = some (j, want) ∧ (ops[j]?).bind (·.dst) = some t ∧ t < slotM ∧ i.g = some (t, want)) := by
        unfold compIns at h1
        split at h1
        · rename_i op hop
          refine ⟨op, hop, ?_⟩
          split at h1
          · rename_i e
            split at h1
            · rename_i eg; cases h1; exact ⟨e.symm, rfl, .inl ⟨eg, rfl⟩⟩
            · rename_i j want eg
              split at h1
              · rename_i t ht
                split at h1
                · rename_i hlt; cases h1; exact ⟨e.symm, rfl, .inr ⟨j, want, t, eg, ht, hlt, rfl⟩⟩
                · cases h1
              · cases h1
          · rename_i d e
            split at h1
            · split at h1
              · rename_i eg; cases h1; exact ⟨e.symm, rfl, .inl ⟨eg, rfl⟩⟩
              · rename_i j want eg
                split at h1
                · rename_i t ht
                  split at h1
                  · rename_i hlt; cases h1; exact ⟨e.symm, rfl, .inr ⟨j, want, t, eg, ht, hlt, rfl⟩⟩
                  · cases h1
                · cases h1
            · cases h1
        · cases h1
      have doit : stepI P o.dst op s (fun s' => wpI P is' s' K) → o.wp P a w (wpList P ops Q l) Q := fun hs =>
        (step_ok h hd hop hs).wp fun s' blk' a' w' k r => ih r k hQ
      have skip : wpI P is' (s.put o.dst .und) K → wpList P ops Q l (a.put o.dst undef) w := fun hs =>
        ih (h.put hd (v := undef) (x := .und) (show undef = undef from rfl)) hs hQ
      rcases hg with ⟨e1, e2⟩ | ⟨j, want, t, e1, e2, htl, e3⟩
      · unfold wpList
        rw [if_pos (by simp [Region.wanted, e1])]
        simp only [wpI, e2, hid, hiop] at hK
        exact .inl (doit hK)
      · simp only [wpI, e3, hid, hiop] at hK
        have hy : ∀ v : Bool, a.tmps.getD t undef = .bool v → yielded ops a.tmps j = some v := by
          intro v hv
          unfold yielded
          rw [e2]
          simp only [Option.bind_some]
          have : a.tmps[t]? = some (.bool v) := by
            rw [Array.getD_eq_getD_getElem?] at hv
            cases hq : a.tmps[t]? with
            | none => rw [hq] at hv; simp [undef] at hv
            | some u => rw [hq] at hv; simp at hv; rw [hv]
          rw [this]
        have hen := h.at_ htl
        unfold guardP at hK
        split at hK
        · rename_i v hv
          rw [hv] at hen
          have hb := hen.bool
          unfold wpList
          by_cases e : v = want
          · rw [if_pos (by simp [Region.wanted, e1, hy v hb, e])]
            exact .inl (doit (hK.1 e))
          · rw [if_neg (by simp [Region.wanted, e1, hy v hb, e])]
            exact skip (hK.2 (by cases v <;> cases want <;> simp_all))
        · rename_i hv
          rw [hv] at hen
          have hu : a.tmps.getD t undef = undef := hen
          have hyn : yielded ops a.tmps j = none := by
            unfold yielded
            rw [e2]
            simp only [Option.bind_some]
            cases hq : a.tmps[t]? with
            | none => rfl
            | some u =>
              have : u = undef := by rw [Array.getD_eq_getD_getElem?, hq] at hu; simpa using hu
              rw [this]; rfl
          unfold wpList
          rw [if_neg (by simp [Region.wanted, e1, hyn])]
          exact skip hK
        · exact hK.elim
    · cases hc

end
end Go.Proofs.Ytenfgllkjgfjpaa
