/- The abstract machine, part 11: cuts of slices, append. -/
import Derived.Test.YtenfgllkjgfjpaaMCore10
set_option linter.all false
namespace Go.Proofs.Ytenfgllkjgfjpaa
open Go.RowKit

theorem Rd.cut {w : World} {G : Nat → Prop} {ad : Option Addr} {len cap k : Nat} {rows : List (List C)} (h : Rd w G (.slice ad len cap) (.sl k rows)) {l q m : Nat} (h1 : l ≤ q) (h2 : q ≤ len) (h3 : q ≤ m) (h4 : m ≤ cap) :
    Rd w G (.slice (if m = l then ad else ad.map (·.add (l * k))) (q - l) (m - l)) (.sl k ((rows.take q).drop l)) := by
  cases h with
  | sl vals e1 e2 e3 e4 e5 e6 e7 =>
    have get : ∀ i r, ((rows.take q).drop l)[i]? = some r → rows[l + i]? = some r ∧ l + i < q := by
      intro i r hr
      rw [List.getElem?_drop, List.getElem?_take] at hr
      split at hr
      · exact ⟨hr, ‹_›⟩
      · cases hr
    refine .sl (fun i j => vals (l + i) j) (by simp; omega) (by omega) (by omega) (fun r hr => ?_) (fun hl => ?_) (fun i r hr j c hc => ?_) (fun i r hr j c hc => ?_)
    · exact e4 r (List.mem_of_mem_take (List.mem_of_mem_drop hr))
    · rw [if_neg (by omega)]
      have := e5 (by omega)
      cases ad <;> simp_all
    · obtain ⟨hr', hlt⟩ := get i r hr
      obtain ⟨ad', rfl, hg, hcell⟩ := e6 _ r hr' j c hc
      refine ⟨ad'.add (l * k), by rw [if_neg (by omega)]; rfl, by rw [block_add]; exact hg, ?_⟩
      rw [add_add, ← hcell]
      congr 2
      rw [Nat.add_mul]; omega
    · exact e7 _ r (get i r hr).1 j c hc

section
variable {P : Program} {g : Ghost} {o : Oper} {s : St} {a : Act} {w : World} {blk : Lay} {K : St → Prop}

theorem run_bound {n : Int} {y : Nat} {code : BoundsCode} (h0 : 0 ≤ n) (h1 : n ≤ y) (w : World) : (Instr.sliceBound (.int .i64 n) y code).run P w = .ok n.toNat w := by
  simp [Instr.sliceBound, asIntOf, h0, h1]

theorem run_slc {t e : TypeId} {i : TypeInfo} (ht : P.underlying t = some (.slice e)) (hi : P.info? e = some i) (ad : Option Addr) (len cap : Nat) {l h : Int} (h0 : 0 ≤ l) (h1 : l ≤ h) (h2 : h ≤ cap) (w : World) :
    (Instr.sliceAt t (.slice ad len cap) (some (.int .i64 l)) (some (.int .i64 h)) none).run P w = .ok (.slice (if cap = l.toNat then ad else ad.map (·.add (l.toNat * i.size))) (h.toNat - l.toNat) (cap - l.toNat)) w := by
  have b1 := run_bound (P := P) (n := h) (y := cap) (code := .sliceAcap) (by omega) h2 w
  have b2 := run_bound (P := P) (n := l) (y := h.toNat) (code := .sliceB) h0 (by omega) w
  simp [Instr.sliceAt, Instr.slice, run_underlying ht, Instr.sliceBounds, b1, b2, run_sizeOf' hi]

theorem run_slc_lo {t e : TypeId} {i : TypeInfo} (ht : P.underlying t = some (.slice e)) (hi : P.info? e = some i) (ad : Option Addr) (len cap : Nat) {l : Int} (h0 : 0 ≤ l) (h1 : l ≤ len) (w : World) :
    (Instr.sliceAt t (.slice ad len cap) (some (.int .i64 l)) none none).run P w = .ok (.slice (if cap = l.toNat then ad else ad.map (·.add (l.toNat * i.size))) (len - l.toNat) (cap - l.toNat)) w := by
  have b2 := run_bound (P := P) (n := l) (y := len) (code := .sliceB) h0 h1 w
  simp [Instr.sliceAt, Instr.slice, run_underlying ht, Instr.sliceBounds, b2, run_sizeOf' hi]

theorem run_slc_hi {t e : TypeId} {i : TypeInfo} (ht : P.underlying t = some (.slice e)) (hi : P.info? e = some i) (ad : Option Addr) (len cap : Nat) {h : Int} (h0 : 0 ≤ h) (h1 : h ≤ cap) (w : World) :
    (Instr.sliceAt t (.slice ad len cap) none (some (.int .i64 h)) none).run P w = .ok (.slice (if cap = 0 then ad else ad.map (·.add (0 * i.size))) h.toNat cap) w := by
  have b1 := run_bound (P := P) (n := h) (y := cap) (code := .sliceAcap) h0 h1 w
  simp [Instr.sliceAt, Instr.slice, run_underlying ht, Instr.sliceBounds, b1, run_sizeOf' hi]

theorem run_slc_mx {t e : TypeId} {i : TypeInfo} (ht : P.underlying t = some (.slice e)) (hi : P.info? e = some i) (ad : Option Addr) (len cap : Nat) {h m : Int} (h0 : 0 ≤ h) (h1 : h ≤ m) (h2 : m ≤ cap) (w : World) :
    (Instr.sliceAt t (.slice ad len cap) none (some (.int .i64 h)) (some (.int .i64 m))).run P w = .ok (.slice (if m.toNat = 0 then ad else ad.map (·.add (0 * i.size))) h.toNat m.toNat) w := by
  have b1 := run_bound (P := P) (n := m) (y := cap) (code := .slice3Acap) (by omega) h2 w
  have b2 := run_bound (P := P) (n := h) (y := m.toNat) (code := .slice3B) h0 (by omega) w
  simp [Instr.sliceAt, Instr.slice, run_underlying ht, Instr.sliceBounds, b1, b2, run_sizeOf' hi]

theorem add_zero_map (ad : Option Addr) (k : Nat) (c : Prop) [Decidable c] : (if c then ad else ad.map (·.add (0 * k))) = ad := by
  rw [Nat.zero_mul]
  cases ad <;> simp [Addr.add]

theorem slc_ok (h : Repr g s a w blk) (hd : ∀ i, o.dst = some i → i < g.N) {t e : TypeId} {k : Nat} {p : Operand} {lo hi mx : Option Operand} {xp : X} {xl xh xm : Option X} (ho : o.op = .slice t p lo hi mx) (ht : P.underlying t = some (.slice e)) (hk : szOf P e = some k)
    (hp : cx p = some xp) (hl : ∀ y, lo = some y → ∃ x, xl = some x ∧ cx y = some x) (hh : ∀ y, hi = some y → ∃ x, xh = some x ∧ cx y = some x) (hm : ∀ y, mx = some y → ∃ x, xm = some x ∧ cx y = some x)
    (nl : lo = none → xl = none) (nh : hi = none → xh = none) (nm : mx = none → xm = none)
    (hK : slcP k (s.ev xp) (xl.map s.ev) (xh.map s.ev) (xm.map s.ev) fun v => K (s.put o.dst v)) : OpOk P g o a w K := by
  obtain ⟨i, hi', rfl⟩ := szOf_some hk
  have ep := h.ev hp
  have rl : ∀ n : Int, xl.map s.ev = some (.c (.i n)) → lo.map a.eval = some (.int .i64 n) := by
    intro n hn
    cases lo with
    | none => rw [nl rfl] at hn; cases hn
    | some y =>
      obtain ⟨x, rfl, hx⟩ := hl y rfl
      have := h.ev hx
      simp only [Option.map_some, Option.some.injEq] at hn
      rw [hn] at this
      simp [this.int.1]
  have rh : ∀ n : Int, xh.map s.ev = some (.c (.i n)) → hi.map a.eval = some (.int .i64 n) := by
    intro n hn
    cases hi with
    | none => rw [nh rfl] at hn; cases hn
    | some y =>
      obtain ⟨x, rfl, hx⟩ := hh y rfl
      have := h.ev hx
      simp only [Option.map_some, Option.some.injEq] at hn
      rw [hn] at this
      simp [this.int.1]
  have rm : ∀ n : Int, xm.map s.ev = some (.c (.i n)) → mx.map a.eval = some (.int .i64 n) := by
    intro n hn
    cases mx with
    | none => rw [nm rfl] at hn; cases hn
    | some y =>
      obtain ⟨x, rfl, hx⟩ := hm y rfl
      have := h.ev hx
      simp only [Option.map_some, Option.some.injEq] at hn
      rw [hn] at this
      simp [this.int.1]
  have ul : xl.map s.ev = none → lo.map a.eval = none := by
    intro hn
    cases lo with
    | none => rfl
    | some y => obtain ⟨x, rfl, hx⟩ := hl y rfl; cases hn
  have uh : xh.map s.ev = none → hi.map a.eval = none := by
    intro hn
    cases hi with
    | none => rfl
    | some y => obtain ⟨x, rfl, hx⟩ := hh y rfl; cases hn
  have um : xm.map s.ev = none → mx.map a.eval = none := by
    intro hn
    cases mx with
    | none => rfl
    | some y => obtain ⟨x, rfl, hx⟩ := hm y rfl; cases hn
  have run : ∀ r, (Instr.sliceAt t (a.eval p) (lo.map a.eval) (hi.map a.eval) (mx.map a.eval)).run P w = .ok r w → (execOp a.eval o).run P w = .ok (.value r) w := by
    intro r hr
    simp only [execOp, ho, Sem.run_bind, hr, Result.andThen_ok, Sem.run_pure]
  revert hK ep rl rh rm ul uh um run
  generalize s.ev xp = vp; generalize a.eval p = v; generalize xl.map s.ev = vl; generalize xh.map s.ev = vh; generalize xm.map s.ev = vm
  generalize lo.map a.eval = ul; generalize hi.map a.eval = uh; generalize mx.map a.eval = um
  intro hK ep rl rh rm nl nh nm run
  unfold slcP at hK
  split at hK
  · rename_i k' rows l q
    obtain ⟨rfl, h0, h1, h2, hK⟩ := hK
    cases rl _ rfl; cases rh _ rfl; cases nm rfl
    obtain ⟨ad, len, cap, e1, hr⟩ : ∃ ad len cap, v = .slice ad len cap ∧ rows.length = len := by
      cases ep.c; exact ⟨_, _, _, rfl, ‹_›⟩
    subst e1
    have hlc : len ≤ cap := by cases ep.c; assumption
    refine OpOk.val2 h hd hK (run _ (run_slc ht hi' ad len cap h0 h1 (by omega) w)) (.mk ?_)
    exact Rd.cut ep.c (by omega) (by omega) (by omega) (Nat.le_refl _)
  · rename_i k' rows l
    obtain ⟨rfl, h0, h1, hK⟩ := hK
    cases rl _ rfl; cases nh rfl; cases nm rfl
    obtain ⟨ad, len, cap, e1, hr⟩ : ∃ ad len cap, v = .slice ad len cap ∧ rows.length = len := by
      cases ep.c; exact ⟨_, _, _, rfl, ‹_›⟩
    subst e1
    have hlc : len ≤ cap := by cases ep.c; assumption
    refine OpOk.val2 h hd hK (run _ (run_slc_lo ht hi' ad len cap h0 (by omega) w)) (.mk ?_)
    have := Rd.cut ep.c (l := l.toNat) (q := len) (m := cap) (by omega) (Nat.le_refl _) hlc (Nat.le_refl _)
    rwa [List.take_of_length_le (by omega)] at this
  · rename_i k' rows q
    obtain ⟨rfl, h0, h1, hK⟩ := hK
    cases nl rfl; cases rh _ rfl; cases nm rfl
    obtain ⟨ad, len, cap, e1, hr⟩ : ∃ ad len cap, v = .slice ad len cap ∧ rows.length = len := by
      cases ep.c; exact ⟨_, _, _, rfl, ‹_›⟩
    subst e1
    have hlc : len ≤ cap := by cases ep.c; assumption
    have hrun := run_slc_hi (P := P) ht hi' ad len cap h0 (by omega) w
    rw [add_zero_map] at hrun
    refine OpOk.val2 h hd hK (run _ hrun) (.mk ?_)
    have := Rd.cut ep.c (l := 0) (q := q.toNat) (m := cap) (by omega) (by omega) (by omega) (Nat.le_refl _)
    rw [add_zero_map] at this
    exact this
  · rename_i k' rows q m
    obtain ⟨rfl, h0, rfl, h1, hK⟩ := hK
    cases nl rfl; cases rh _ rfl; cases rm _ rfl
    obtain ⟨ad, len, cap, e1, hr⟩ : ∃ ad len cap, v = .slice ad len cap ∧ rows.length = len := by
      cases ep.c; exact ⟨_, _, _, rfl, ‹_›⟩
    subst e1
    have hlc : len ≤ cap := by cases ep.c; assumption
    have hrun := run_slc_mx (P := P) ht hi' ad len cap h0 (Int.le_refl _) (by omega) w
    rw [add_zero_map] at hrun
    have := Rd.cut ep.c (l := 0) (q := q.toNat) (m := q.toNat) (by omega) (by omega) (by omega) (by omega)
    rw [add_zero_map] at this
    exact OpOk.val2 h hd hK (run _ hrun) ⟨ad, _, rfl, this⟩
  · rename_i id k' n q
    obtain ⟨rfl, h0, h1, hK⟩ := hK
    cases nl rfl; cases rh _ rfl; cases nm rfl
    obtain ⟨m0, hO, hn, hv⟩ := ep
    rcases hv with ⟨hb, rfl, A0, rfl⟩ | ⟨b, cap, arr, e', hb, rfl, h2, h3, h4, h5⟩
    · have hrun := run_slc_hi (P := P) ht hi' A0 0 0 h0 (by omega) w
      rw [add_zero_map] at hrun
      have e0 : q.toNat = 0 := by omega
      rw [e0] at hrun
      exact OpOk.val2 h hd hK (run _ hrun) ⟨m0, hO, by omega, .inl ⟨hb, by omega, A0, rfl⟩⟩
    · have hrun := run_slc_hi (P := P) ht hi' (some ⟨b, 0, none⟩) n cap h0 (by omega) w
      rw [add_zero_map] at hrun
      exact OpOk.val2 h hd hK (run _ hrun) ⟨m0, hO, by omega, .inr ⟨b, cap, arr, e', hb, rfl, by omega, h3, h4, h5⟩⟩
  · rename_i id k' n l
    obtain ⟨rfl, h0, h1, hK⟩ := hK
    cases rl _ rfl; cases nh rfl; cases nm rfl
    obtain ⟨m0, hO, hn, hv⟩ := ep
    rcases hv with ⟨hb, rfl, A0, rfl⟩ | ⟨b, cap, arr, e', hb, rfl, h2, h3, h4, h5⟩
    · have hrun := run_slc_lo (P := P) ht hi' A0 0 0 h0 (by omega) w
      exact OpOk.val2 h hd hK (run _ hrun) ⟨m0, _, _, hO, by omega, rfl, by omega, by unfold maxLen; omega, fun hp => by omega⟩
    · have hrun := run_slc_lo (P := P) ht hi' (some ⟨b, 0, none⟩) n cap h0 (by omega) w
      refine OpOk.val2 h hd hK (run _ hrun) ⟨m0, _, _, hO, by omega, rfl, by omega, by omega, fun hp => ⟨b, hb, ?_⟩⟩
      rw [if_neg (by omega)]; simp [add_lit]
  · rename_i id k' n l q
    obtain ⟨rfl, h0, h1, h1', hK⟩ := hK
    cases rl _ rfl; cases rh _ rfl; cases nm rfl
    obtain ⟨m0, hO, hn, hv⟩ := ep
    rcases hv with ⟨hb, rfl, A0, rfl⟩ | ⟨b, cap, arr, e', hb, rfl, h2, h3, h4, h5⟩
    · have hrun := run_slc (P := P) ht hi' A0 0 0 h0 h1 (by omega) w
      exact OpOk.val2 h hd hK (run _ hrun) ⟨m0, _, _, hO, by omega, rfl, by omega, by unfold maxLen; omega, fun hp => by omega⟩
    · have hrun := run_slc (P := P) ht hi' (some ⟨b, 0, none⟩) n cap h0 h1 (by omega) w
      refine OpOk.val2 h hd hK (run _ hrun) ⟨m0, _, _, hO, by omega, rfl, by omega, by omega, fun hp => ⟨b, hb, ?_⟩⟩
      rw [if_neg (by omega)]; simp [add_lit]
  · rename_i q
    obtain ⟨rfl, hK⟩ := hK
    cases nl rfl; cases rh _ rfl; cases nm rfl
    cases ep
    have hrun := run_slc_hi (P := P) ht hi' none 0 0 (Int.le_refl _) (by omega) w
    rw [add_zero_map] at hrun
    exact OpOk.val2 h hd hK (run _ hrun) rfl
  · rename_i q m
    obtain ⟨rfl, rfl, hK⟩ := hK
    cases nl rfl; cases rh _ rfl; cases rm _ rfl
    cases ep
    have hrun := run_slc_mx (P := P) ht hi' none 0 0 (Int.le_refl _) (Int.le_refl _) (by omega) w
    rw [add_zero_map] at hrun
    exact OpOk.val2 h hd hK (run _ hrun) rfl
  · exact hK.elim

theorem sla_ok (h : Repr g s a w blk) (hd : ∀ i, o.dst = some i → i < g.N) {t e : TypeId} {k n : Nat} {p q : Operand} {xp xq : X} (ho : o.op = .slice t p none (some q) none) (ht : P.underlying t = some (.array n e)) (hk : szOf P e = some k)
    (hp : cx p = some xp) (hq : cx q = some xq) (hn : n ≤ maxLen)
    (hK : slaP k n s (s.ev xp) (s.ev xq) fun v => K (s.put o.dst v)) : OpOk P g o a w K := by
  obtain ⟨i, hi', rfl⟩ := szOf_some hk
  have ep := h.ev hp; have eq := h.ev hq
  unfold slaP at hK
  split at hK
  · rename_i id k' j q' hx1 hx2
    rw [hx1] at ep; rw [hx2] at eq
    split at hK
    · rename_i k2 rows hO
      obtain ⟨rfl, rfl, h0, h1, h2, hK⟩ := hK
      obtain ⟨b, rows', hO', hb, e1⟩ := ep
      have e3 : k2 = i.size := by
        have : (s.ob id).dims = some (i.size, rows') := hO'
        rw [hO] at this; simp [Obj.dims] at this; exact this.1
      subst e3
      obtain ⟨e2, _⟩ := eq.int
      obtain ⟨arr, e', r1, r2, r3, r4⟩ := h.row hO hb
      have hrun : (execOp a.eval o).run P w = .ok (.value (.slice (some ⟨b, 0, none⟩) q'.toNat n)) w := by
        have b1 := run_bound (P := P) (n := q') (y := n) (code := .sliceAlen) h0 (by omega) w
        have e4 : a.eval p = .pointer (some ⟨b, 0, none⟩) := by simpa using e1
        simp [execOp, ho, Instr.sliceAt, run_underlying ht, Instr.sureAddr, e4, e2, Instr.sliceBounds, b1, run_sizeOf' hi', Addr.add]
      refine OpOk.val2 h hd hK hrun ⟨rows.length, by rw [show s.objs id = _ from hO]; rfl, by omega, .inr ⟨b, n, arr, e', hb, rfl, by omega, hn, r1, by rw [← h2]; exact r2⟩⟩
    · exact hK.elim
  · exact hK.elim

theorem sls_ok (h : Repr g s a w blk) (hd : ∀ i, o.dst = some i → i < g.N) {t : TypeId} {p : Operand} {lo hi : Option Operand} {xp : X} {xl xh : Option X} (ho : o.op = .slice t p lo hi none) (ht : P.underlying t = some .string)
    (hp : cx p = some xp) (hl : ∀ y, lo = some y → ∃ x, xl = some x ∧ cx y = some x) (hh : ∀ y, hi = some y → ∃ x, xh = some x ∧ cx y = some x)
    (nl : lo = none → xl = none) (nh : hi = none → xh = none)
    (hK : slsP (s.ev xp) (xl.map s.ev) (xh.map s.ev) fun v => K (s.put o.dst v)) : OpOk P g o a w K := by
  have ep := h.ev hp
  have rl : ∀ n : Int, xl.map s.ev = some (.c (.i n)) → lo.map a.eval = some (.int .i64 n) := by
    intro n hn
    cases lo with
    | none => rw [nl rfl] at hn; cases hn
    | some y =>
      obtain ⟨x, rfl, hx⟩ := hl y rfl
      have := h.ev hx
      simp only [Option.map_some, Option.some.injEq] at hn
      rw [hn] at this
      simp [this.int.1]
  have rh : ∀ n : Int, xh.map s.ev = some (.c (.i n)) → hi.map a.eval = some (.int .i64 n) := by
    intro n hn
    cases hi with
    | none => rw [nh rfl] at hn; cases hn
    | some y =>
      obtain ⟨x, rfl, hx⟩ := hh y rfl
      have := h.ev hx
      simp only [Option.map_some, Option.some.injEq] at hn
      rw [hn] at this
      simp [this.int.1]
  have ul : xl.map s.ev = none → lo.map a.eval = none := by
    intro hn
    cases lo with
    | none => rfl
    | some y => obtain ⟨x, rfl, hx⟩ := hl y rfl; cases hn
  have uh : xh.map s.ev = none → hi.map a.eval = none := by
    intro hn
    cases hi with
    | none => rfl
    | some y => obtain ⟨x, rfl, hx⟩ := hh y rfl; cases hn
  have run : ∀ r, (Instr.sliceAt t (a.eval p) (lo.map a.eval) (hi.map a.eval) none).run P w = .ok r w → (execOp a.eval o).run P w = .ok (.value r) w := by
    intro r hr
    simp only [execOp, ho, Sem.run_bind, Option.map_none, hr, Result.andThen_ok, Sem.run_pure]
  revert hK ep rl rh ul uh run
  generalize s.ev xp = vp; generalize a.eval p = v; generalize xl.map s.ev = vl; generalize xh.map s.ev = vh
  generalize lo.map a.eval = ul; generalize hi.map a.eval = uh
  intro hK ep rl rh nl nh run
  unfold slsP at hK
  split at hK
  · rename_i bs l q
    obtain ⟨h0, h1, h2, hK⟩ := hK
    cases rl _ rfl; cases rh _ rfl
    obtain ⟨rfl, hs⟩ := ep.str
    have b1 := run_bound (P := P) (n := q) (y := bs.size) (code := .sliceAlen) (by omega) h2 w
    have b2 := run_bound (P := P) (n := l) (y := q.toNat) (code := .sliceB) h0 (by omega) w
    refine OpOk.val2 h hd hK (run (.string (bs.extract l.toNat q.toNat)) ?_) (.mk (.s (by simp; omega)))
    simp [Instr.sliceAt, Instr.slice, run_underlying ht, Instr.sliceBounds, b1, b2]
  · rename_i bs l
    obtain ⟨h0, h1, hK⟩ := hK
    cases rl _ rfl; cases nh rfl
    obtain ⟨rfl, hs⟩ := ep.str
    have b2 := run_bound (P := P) (n := l) (y := bs.size) (code := .sliceB) h0 (by omega) w
    refine OpOk.val2 h hd hK (run (.string (bs.extract l.toNat bs.size)) ?_) (.mk (.s (by simp; omega)))
    simp [Instr.sliceAt, Instr.slice, run_underlying ht, Instr.sliceBounds, b2]
  · rename_i bs q
    obtain ⟨h0, h1, hK⟩ := hK
    cases nl rfl; cases rh _ rfl
    obtain ⟨rfl, hs⟩ := ep.str
    have b1 := run_bound (P := P) (n := q) (y := bs.size) (code := .sliceAlen) (by omega) h1 w
    refine OpOk.val2 h hd hK (run (.string (bs.extract 0 q.toNat)) ?_) (.mk (.s (by simp; omega)))
    simp [Instr.sliceAt, Instr.slice, run_underlying ht, Instr.sliceBounds, b1]
  · exact hK.elim

end
end Go.Proofs.Ytenfgllkjgfjpaa
