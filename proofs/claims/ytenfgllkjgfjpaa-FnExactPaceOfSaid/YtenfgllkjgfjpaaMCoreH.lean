/- The abstract machine, part H: regions that leave their order open and change objects: every order comes to one end. -/
import Derived.Test.YtenfgllkjgfjpaaMCoreG
set_option linter.all false
namespace Go.Proofs.Ytenfgllkjgfjpaa
open Go.RowKit

def Tr (P : Program) (r : RIns) (lab : Lab) (s s' : St) : Prop :=
  match r.k with
  | 0 => TrQ P r.i lab s s'
  | 1 => TrM P r.i lab s s'
  | _ => TrE P r.i lab s s'
def apartL (a b : Lab) : Bool := (a.1.all fun i => !b.1.contains i) && b.2
def Run (P : Program) (rs : List RIns) (lab : Nat → Lab) : List Nat → St → St → Prop
  | [], s, sf => s = sf
  | j :: L, s, sf => ∃ r s1, rs[j]? = some r ∧ Tr P r (lab j) s s1 ∧ Run P rs lab L s1 sf

def chkB (chk : List Nat) (h : List (Nat × Lab)) (lab : Lab) : Bool := chk.all fun i => apartL (look ([], true) h i) lab
def noteL (b : Bool) (n : Nat) (lab : Lab) (h : List (Nat × Lab)) : List (Nat × Lab) := if b then (n, lab) :: h else h
def wpE (P : Program) : Nat → List RIns → List (Nat × Lab) → St → (St → Prop) → Prop
  | _, [], _, s, K => K s
  | n, r :: l, h, s, K =>
    match r.k with
    | 0 => insV P r.i s.ev s.objs fun v => chkB r.chk h (labQ r.i s v) = true ∧ wpE P (n + 1) l (noteL r.note n (labQ r.i s v) h) (s.put r.i.d v) K
    | 1 => chkB r.chk h (labM r.i) = true ∧ stepF P r.i.d r.i.op s fun s' => wpE P (n + 1) l (noteL r.note n (labM r.i) h) s' K
    | _ => chkB r.chk h (labE r.i s) = true ∧ stepI P r.i.d r.i.op s fun s' => wpE P (n + 1) l (noteL r.note n (labE r.i s) h) s' K

section
variable {P : Program} {g : Ghost} {N : Nat} {s : St} {a : Act} {w : World} {blk : Lay} {ops : Array Oper}

theorem kind_ok {r : RIns} (h : r.ok = true) : r.i.op.xs.all X.kok = true ∧
    ((r.k = 0 ∧ r.i.op.reads.isSome = true) ∨ (r.k = 1 ∧ r.i.g = none ∧ r.i.op.isMk = true ∧ r.i.d.isSome = true) ∨ (r.k = 2 ∧ r.i.g = none ∧ r.i.op.isEff = true)) := by
  unfold RIns.ok at h
  rw [Bool.and_eq_true] at h
  refine ⟨h.2, ?_⟩
  have h1 := h.1
  unfold Ins.kind at h1
  split at h1
  · rename_i e
    simp only [beq_iff_eq, Option.some.injEq] at h1
    exact .inl ⟨h1.symm, e⟩
  · split at h1
    · rename_i e
      simp only [beq_iff_eq, Option.some.injEq] at h1
      simp only [Bool.and_eq_true] at e
      exact .inr (.inl ⟨h1.symm, by simpa using e.1.1, e.1.2, e.2⟩)
    · split at h1
      · rename_i e
        simp only [beq_iff_eq, Option.some.injEq] at h1
        simp only [Bool.and_eq_true] at e
        exact .inr (.inr ⟨h1.symm, by simpa using e.1, e.2⟩)
      · simp at h1

theorem reads_some {i : Ins} (h : i.op.reads.isSome = true) : ∃ l, i.reads = some l := by
  obtain ⟨l, hl⟩ := Option.isSome_iff_exists.1 h
  unfold Ins.reads
  rw [hl]
  exact ⟨_, rfl⟩

/-- A step, done or passed over. -/
theorem tr_wp (hN : g.N = N) (h : Repr g s a w blk) {o : Oper} {r : RIns} (hc : compIns P N ops o = some r.i) (hok : r.ok = true) {lab : Lab} {s' : St} (ht : Tr P r lab s s') :
    (Region.wanted o (yielded ops a.tmps) = true ∧ OpOk P g o a w (fun s2 => s2 = s')) ∨ (Region.wanted o (yielded ops a.tmps) = false ∧ Repr g s' (a.put o.dst undef) w blk) := by
  obtain ⟨hd0, op, hop, hid, hiop, hg⟩ := compIns_get hc
  have hd : ∀ d, o.dst = some d → d < g.N := by rw [hN]; exact hd0
  have noguard : r.i.g = none → stepI P o.dst op s (fun s2 => s2 = s') → Region.wanted o (yielded ops a.tmps) = true ∧ OpOk P g o a w (fun s2 => s2 = s') := by
    intro e hst
    rcases hg with ⟨e1, e2⟩ | ⟨j, want, t, e1, e2, htl, e3⟩
    · exact ⟨by simp [Region.wanted, e1], step_ok h hd hop hst⟩
    · rw [e] at e3; cases e3
  obtain ⟨hk, hkind⟩ := kind_ok hok
  unfold Tr at ht
  rcases hkind with ⟨e, h1⟩ | ⟨e, h1, h2, h3⟩ | ⟨e, h1, h2⟩
  · rw [e] at ht
    obtain ⟨v, rfl, hv, _⟩ := ht
    obtain ⟨l, hl⟩ := reads_some h1
    exact ins_step hN h hc hl hv
  · rw [e] at ht
    obtain ⟨q, ob, v, hdq, h0, rfl, _, _, _, _, ag⟩ := ht
    refine .inl (noguard h1 ?_)
    rw [← hid, ← hiop]
    exact stepI_of_F (ag s (fun _ _ => rfl) h0 _ rfl)
  · rw [e] at ht
    obtain ⟨Kl, U, v, rfl, ok, _⟩ := ht
    refine .inl (noguard h1 ?_)
    rw [← hid, ← hiop]
    exact ok.again s (fun _ _ => rfl) (fun _ _ _ _ => rfl) (fun _ _ h => h) _ rfl

theorem tr_real (hN : g.N = N) (h : Repr g s a w blk) {o : Oper} {r : RIns} (hc : compIns P N ops o = some r.i) (hok : r.ok = true) {lab : Lab} {s' : St} (ht : Tr P r lab s s') : ∃ a' w' blk', Repr g s' a' w' blk' := by
  rcases tr_wp (ops := ops) hN h hc hok ht with ⟨_, ho⟩ | ⟨_, ho⟩
  · obtain ⟨s2, a', w', blk', e, hr⟩ := ho.some_
    rw [e] at hr
    exact ⟨a', w', blk', hr⟩
  · exact ⟨_, _, _, ho⟩

structure RegInfo (P : Program) (N : Nat) (ops : Array Oper) (rs : List RIns) (anc : List Nat) : Prop where
  len : rs.length = ops.size
  ins : ∀ (j : Nat) (o : Oper), ops[j]? = some o → ∃ r, rs[j]? = some r ∧ compIns P N ops o = some r.i
  ok : ∀ (j : Nat) (r : RIns), rs[j]? = some r → r.ok = true
  back : ∀ (j : Nat) (o : Oper), ops[j]? = some o → ∀ e ∈ o.after, Region.binds .any e = true → e.on < j
  pair : ∀ (i j : Nat) (x y : RIns), i < j → rs[i]? = some x → rs[j]? = some y → (anc.getD j 0).testBit i = true ∨ swapK x y = some true ∨ (swapK x y = some false ∧ i ∈ y.chk ∧ x.note = true)

/-- Before i: those that must go ahead of it. -/
inductive Anc (ops : List Oper) (i : Nat) : Nat → Prop where
  | edge {j : Nat} {o : Oper} {e : Edge} : ops[j]? = some o → e ∈ o.after → Region.binds .any e = true → e.on = i → Anc ops i j
  | step {j : Nat} {o : Oper} {e : Edge} : ops[j]? = some o → e ∈ o.after → Region.binds .any e = true → Anc ops i e.on → Anc ops i j

theorem ancGo_spec (all : List Oper) : ∀ (l : List Oper) (acc : List Nat), all.drop acc.length = l → (∀ j i, (acc.getD j 0).testBit i = true → Anc all i j) → ∀ j i, ((ancGo acc l).getD j 0).testBit i = true → Anc all i j
  | [], acc, _, h => h
  | o :: l, acc, hd, h => by
    have hlt : acc.length < all.length := by
      rcases Nat.lt_or_ge acc.length all.length with h | h
      · exact h
      · rw [List.drop_eq_nil_of_le h] at hd; cases hd
    rw [List.drop_eq_getElem_cons hlt] at hd
    obtain ⟨ho, hl⟩ := List.cons.inj hd
    have ho' : all[acc.length]? = some o := by rw [List.getElem?_eq_getElem hlt, ho]
    refine ancGo_spec all l _ (by simpa using hl) fun j i hb => ?_
    rcases Nat.lt_trichotomy j acc.length with e | e | e
    · rw [List.getD, List.getElem?_append_left e] at hb
      exact h j i hb
    · subst e
      rw [List.getD, List.getElem?_append_right (Nat.le_refl _)] at hb
      simp only [Nat.sub_self, List.getElem?_cons_zero, Option.getD_some] at hb
      have fold : ∀ (es : List Edge) (m : Nat), (∀ e, e ∈ es → e ∈ o.after) → (m.testBit i = true → Anc all i acc.length) → (es.foldl (fun m e => if Region.binds .any e then m ||| (1 <<< e.on) ||| (acc.getD e.on 0) else m) m).testBit i = true → Anc all i acc.length := by
        intro es
        induction es with
        | nil => intro m _ hm hb; exact hm hb
        | cons e es ih =>
          intro m hes hm hb
          refine ih _ (fun e' he' => hes e' (by simp [he'])) (fun hb' => ?_) hb
          dsimp only at hb'
          split at hb'
          · rename_i hbd
            rw [Nat.testBit_or, Nat.testBit_or, Bool.or_eq_true, Bool.or_eq_true] at hb'
            rcases hb' with (hb' | hb') | hb'
            · exact hm hb'
            · rw [Nat.one_shiftLeft, Nat.testBit_two_pow] at hb'
              exact .edge ho' (hes e (by simp)) hbd (by simpa using hb')
            · exact .step ho' (hes e (by simp)) hbd (h _ _ hb')
          · exact hm hb'
      exact fold o.after.toList 0 (fun e he => by simpa using he) (fun hb => by simp at hb) hb
    · rw [List.getD, List.getElem?_eq_none (by simp; omega)] at hb
      simp at hb

theorem anc_listed {listed : Array Bool} (hdown : ∀ (j : Nat) (o : Oper), ops[j]? = some o → listed.getD j true = true → ∀ e ∈ o.after, Region.binds .any e = true → listed.getD e.on false = true) (hsz : listed.size = ops.size) {i : Nat} :
    ∀ {j : Nat}, Anc ops.toList i j → (∀ o, ops[j]? = some o → ∀ e ∈ o.after, Region.binds .any e = true → listed.getD e.on false = true) → listed.getD i false = true := by
  intro j h
  induction h with
  | edge ho he hb hi =>
    intro hall
    have := hall _ (by simpa using ho) _ he hb
    rwa [hi] at this
  | @step j o e ho he hb hanc ih =>
    intro hall
    have h1 := hall _ (by simpa using ho) _ he hb
    refine ih fun o' ho' e' he' hb' => hdown _ o' ho' ?_ e' he' hb'
    rw [Array.getD_eq_getD_getElem?] at h1 ⊢
    cases hq : listed[e.on]? with
    | none => rfl
    | some b => rw [hq] at h1; exact h1

theorem swapK_apart {x y : RIns} {b : Bool} (h : swapK x y = some b) : apartI x.i y.i = true := by
  unfold swapK at h
  split at h
  · assumption
  · cases h

theorem disj_of {a b : Lab} (h : apartL a b = true) : (∀ j, j ∈ a.1 → j ∉ b.1) ∧ b.2 = true := by
  unfold apartL at h
  rw [Bool.and_eq_true] at h
  refine ⟨fun j hj hb => ?_, h.2⟩
  have := List.all_eq_true.1 h.1 j hj
  simp at this
  exact this hb

theorem swap_ok {x y : RIns} {lx ly : Lab} {s1 s2 : St} (hs : Sound s) (okx : x.ok = true) (oky : y.ok = true) (hsw : swapK x y = some true ∨ (swapK x y = some false ∧ apartL lx ly = true)) (h1 : Tr P x lx s s1) (h2 : Tr P y ly s1 s2) : ∃ s1', Tr P y ly s s1' ∧ Tr P x lx s1' s2 := by
  have ha : Apart x.i y.i := by
    rcases hsw with h | ⟨h, _⟩
    · exact apart_of (swapK_apart h)
    · exact apart_of (swapK_apart h)
  have hdis : swapK x y = some false → (∀ j, j ∈ lx.1 → j ∉ ly.1) ∧ ly.2 = true := by
    intro e
    rcases hsw with h | ⟨_, h⟩
    · rw [e] at h; cases h
    · exact disj_of h
  obtain ⟨kx, hkx⟩ := kind_ok okx
  obtain ⟨ky, hky⟩ := kind_ok oky
  have hap : apartI x.i y.i = true := by rcases hsw with h | ⟨h, _⟩ <;> exact swapK_apart h
  unfold Tr at h1 h2 ⊢
  rcases hkx with ⟨ex, hx1⟩ | ⟨ex, hx1, hx2, hx3⟩ | ⟨ex, hx1, hx2⟩ <;> rcases hky with ⟨ey, hy1⟩ | ⟨ey, hy1, hy2, hy3⟩ | ⟨ey, hy1, hy2⟩ <;> rw [ex] at h1 ⊢ <;> rw [ey] at h2 ⊢ <;> simp only at h1 h2 ⊢
  · exact swapQQ hy1 hx1 ha h1 h2
  · exact swapQM hs hx1 kx ha h1 h2
  · unfold swapK at hsw hdis
    rw [if_pos hap, ex, ey] at hsw hdis
    simp only at hsw hdis
    by_cases hc : x.i.op.isCall = true
    · rw [if_pos hc] at hsw; simp at hsw
    · rw [if_neg hc] at hsw hdis
      exact swapQE hx1 (by simpa using hc) kx ha (hdis (by first | rfl | trivial)).1 h1 h2
  · exact swapMQ hs hy1 ky ha h1 h2
  · exact swapMM ha h1 h2
  · exact swapME hs ky ha h1 h2
  · unfold swapK at hsw hdis
    rw [if_pos hap, ex, ey] at hsw hdis
    simp only at hsw hdis
    by_cases hc : y.i.op.isCall = true
    · rw [if_pos hc] at hsw; simp at hsw
    · rw [if_neg hc] at hsw hdis
      exact swapEQ hy1 (by simpa using hc) ha (hdis (by first | rfl | trivial)).1 (hdis (by first | rfl | trivial)).2 h1 h2
  · unfold swapK at hsw hdis
    rw [if_pos hap, ex, ey] at hsw hdis
    simp only at hsw hdis
    exact swapEM hs kx ha (hdis (by first | rfl | trivial)).1 h1 h2
  · unfold swapK at hsw
    rw [if_pos hap, ex, ey] at hsw
    simp at hsw

/-- An operation that need not wait comes first. -/
theorem bubble {anc : List Nat} {rs : List RIns} (hR : RegInfo P N ops rs anc) (hN : g.N = N) {lab : Nat → Lab} (hchk : ∀ (j : Nat) (r : RIns), rs[j]? = some r → ∀ i, i ∈ r.chk → apartL (lab i) (lab j) = true) {j : Nat} {L2 : List Nat} {sf : St} :
    ∀ (L1 : List Nat) (s : St) (a : Act) (w : World) (blk : Lay), Repr g s a w blk → (∀ i, i ∈ L1 → i < j ∧ ¬ (anc.getD j 0).testBit i = true) → Run P rs lab (L1 ++ j :: L2) s sf → ∃ r s1, rs[j]? = some r ∧ Tr P r (lab j) s s1 ∧ Run P rs lab (L1 ++ L2) s1 sf := by
  intro L1
  induction L1 with
  | nil => intro s a w blk _ _ h; exact h
  | cons i L1 ih =>
    intro s a w blk hr hL h
    obtain ⟨x, s1, hx, ht, hrun⟩ := h
    have hi : ∃ o, ops[i]? = some o := by
      have : i < ops.size := by rw [← hR.len]; exact (List.getElem?_eq_some_iff.1 hx).1
      exact ⟨_, Array.getElem?_eq_getElem this⟩
    obtain ⟨o, ho⟩ := hi
    obtain ⟨x', hx', hcx⟩ := hR.ins i o ho
    rw [hx] at hx'; cases hx'
    obtain ⟨a1, w1, blk1, hr1⟩ := tr_real (ops := ops) hN hr hcx (hR.ok i x hx) ht
    obtain ⟨y, s2, hy, hty, hrun2⟩ := ih s1 a1 w1 blk1 hr1 (fun q hq => hL q (by simp [hq])) hrun
    obtain ⟨hij, hna⟩ := hL i (by simp)
    have hsw : swapK x y = some true ∨ (swapK x y = some false ∧ apartL (lab i) (lab j) = true) := by
      rcases hR.pair i j x y hij hx hy with e | e | ⟨e, e1, _⟩
      · exact absurd e hna
      · exact .inl e
      · exact .inr ⟨e, hchk j y hy i e1⟩
    obtain ⟨s1', h1, h2⟩ := swap_ok hr.sound (hR.ok i x hx) (hR.ok j y hy) hsw ht hty
    exact ⟨y, s1', hy, h1, x, s2, hx, h2, hrun2⟩

theorem look_note {b : Bool} {n i : Nat} {lab : Lab} {h : List (Nat × Lab)} : look ([], true) (noteL b n lab h) i = if b = true ∧ i = n then lab else look ([], true) h i := by
  unfold noteL
  cases b
  · simp
  · rw [if_pos rfl, look_cons]; simp

/-- The steps in the text's order. -/
theorem trace {anc : List Nat} {rs : List RIns} (hR : RegInfo P N ops rs anc) (hnote : ∀ (j : Nat) (y : RIns), rs[j]? = some y → ∀ i, i ∈ y.chk → i < j ∧ ∃ x, rs[i]? = some x ∧ x.note = true) (hN : g.N = N) {K : St → Prop} :
    ∀ (m n : Nat) (h : List (Nat × Lab)) (s : St) (a : Act) (w : World) (blk : Lay) (lab0 : Nat → Lab), n + m = rs.length → (∀ i x, i < n → rs[i]? = some x → x.note = true → look ([], true) h i = lab0 i) → Repr g s a w blk → wpE P n (rs.drop n) h s K →
      ∃ lab sf, (∀ i, i < n → lab i = lab0 i) ∧ K sf ∧ Run P rs lab (List.range' n m) s sf ∧ ∀ (j : Nat) (r : RIns), n ≤ j → rs[j]? = some r → ∀ i, i ∈ r.chk → apartL (lab i) (lab j) = true := by
  intro m
  induction m with
  | zero =>
    intro n h s a w blk lab0 hnm _ _ hw
    rw [List.drop_eq_nil_of_le (by omega)] at hw
    refine ⟨lab0, s, fun _ _ => rfl, hw, rfl, fun j r hj hr => ?_⟩
    have := (List.getElem?_eq_some_iff.1 hr).1
    omega
  | succ m ih =>
    intro n h s a w blk lab0 hnm hh hr hw
    have hlt : n < rs.length := by omega
    have hrn := List.getElem?_eq_getElem hlt
    rw [List.drop_eq_getElem_cons hlt] at hw
    revert hrn hw
    generalize rs[n] = r
    intro hw hrn
    have hi : ∃ o, ops[n]? = some o := ⟨_, Array.getElem?_eq_getElem (by rw [← hR.len]; exact hlt)⟩
    obtain ⟨o, ho⟩ := hi
    obtain ⟨r', hr', hcr⟩ := hR.ins n o ho
    rw [hrn] at hr'; cases hr'
    have hok := hR.ok n r hrn
    have go : ∀ (s1 : St) (ln : Lab), Tr P r ln s s1 → chkB r.chk h ln = true → wpE P (n + 1) (rs.drop (n + 1)) (noteL r.note n ln h) s1 K → ∃ lab sf, (∀ i, i < n → lab i = lab0 i) ∧ K sf ∧ Run P rs lab (List.range' n (m + 1)) s sf ∧ ∀ (j : Nat) (r : RIns), n ≤ j → rs[j]? = some r → ∀ i, i ∈ r.chk → apartL (lab i) (lab j) = true := by
      intro s1 ln ht hc hw1
      obtain ⟨a1, w1, blk1, hr1⟩ := tr_real (ops := ops) hN hr hcr hok ht
      have hnx : ∀ i x, i < n + 1 → rs[i]? = some x → x.note = true → look ([], true) (noteL r.note n ln h) i = if i = n then ln else lab0 i := by
        intro i x hin hx hxn
        rw [look_note]
        by_cases e : i = n
        · subst e
          rw [hrn] at hx; cases hx
          simp [hxn]
        · rw [if_neg (by simp [e]), if_neg e]
          exact hh i x (by omega) hx hxn
      obtain ⟨lab, sf, e1, e2, e3, e4⟩ := ih (n + 1) (noteL r.note n ln h) s1 a1 w1 blk1 (fun i => if i = n then ln else lab0 i) (by omega) hnx hr1 hw1
      · have hn : lab n = ln := by rw [e1 n (by omega)]; simp
        refine ⟨lab, sf, fun i hin => ?_, e2, ?_, fun j r2 hj hr2 i hi => ?_⟩
        · rw [e1 i (by omega), if_neg (by omega)]
        · rw [List.range'_succ]
          exact ⟨r, s1, hrn, by rw [hn]; exact ht, e3⟩
        · rcases Nat.lt_or_ge n j with hj' | hj'
          · exact e4 j r2 hj' hr2 i hi
          · have : j = n := by omega
            subst this
            rw [hrn] at hr2; cases hr2
            obtain ⟨hin, x, hx, hxn⟩ := hnote j r hrn i hi
            have := List.all_eq_true.1 hc i hi
            rw [hh i x hin hx hxn] at this
            rw [hn, e1 i (by omega), if_neg (by omega)]
            exact this
    obtain ⟨hk, hkind⟩ := kind_ok hok
    unfold wpE at hw
    rcases hkind with ⟨e, h1⟩ | ⟨e, h1, h2, h3⟩ | ⟨e, h1, h2⟩
    · rw [e] at hw
      simp only at hw
      obtain ⟨l, hl⟩ := reads_some h1
      obtain ⟨v, ⟨hc, hw1⟩, hall⟩ := insV_det (P := P) hr hl _ hw
      refine go _ _ ?_ hc hw1
      unfold Tr; rw [e]
      exact ⟨v, rfl, hall, rfl⟩
    · rw [e] at hw
      simp only at hw
      obtain ⟨hc, hw⟩ := hw
      obtain ⟨q, ob, v, a1, a2, a3, a4, a5, a6, a7⟩ := mk_form h2 hw
      refine go _ _ ?_ hc a3
      unfold Tr; rw [e]
      exact ⟨q, ob, v, a1, a2, rfl, a4, a5, a6, rfl, a7⟩
    · rw [e] at hw
      simp only at hw
      obtain ⟨hc, hw⟩ := hw
      obtain ⟨Kl, U, v, a1, a2⟩ := eff_form h2 hw
      refine go _ _ ?_ hc a1
      unfold Tr; rw [e]
      refine ⟨Kl, U, v, rfl, a2, fun j hj => ?_, rfl⟩
      rcases List.mem_append.1 hj with hj | hj
      · exact .inl (wOf_ids h2 j hj)
      · exact .inr (by simpa using hj)

theorem filter_split {p q : Nat → Bool} {n j : Nat} (hj : j < n) (hp : p j = true) (hq : q j = false) (hpq : ∀ i, i ≠ j → p i = q i) :
    ∃ L1 L2, (List.range n).filter p = L1 ++ j :: L2 ∧ (List.range n).filter q = L1 ++ L2 ∧ ∀ i, i ∈ L1 → i < j ∧ p i = true := by
  have e : List.range n = List.range j ++ j :: (List.range n).drop (j + 1) := by
    conv => lhs; rw [← List.take_append_drop j (List.range n)]
    rw [List.take_range, Nat.min_eq_left (by omega), List.drop_eq_getElem_cons (by simpa using hj)]
    simp
  refine ⟨(List.range j).filter p, ((List.range n).drop (j + 1)).filter p, ?_, ?_, fun i hi => ?_⟩
  · conv => lhs; rw [e]
    rw [List.filter_append, List.filter_cons, hp]; rfl
  · conv => lhs; rw [e]
    rw [List.filter_append, List.filter_cons, hq]
    congr 1
    · apply List.filter_congr
      intro i hi
      rw [hpq i (by have := List.mem_range.1 hi; omega)]
    · simp only [Bool.false_eq_true, if_false]
      apply List.filter_congr
      intro i hi
      refine (hpq i ?_).symm
      rintro rfl
      obtain ⟨k, hk⟩ := List.getElem?_of_mem hi
      rw [List.getElem?_drop, List.getElem?_range] at hk
      · simp at hk
        omega
      · have := (List.getElem?_eq_some_iff.1 hk).1
        simp at this; omega
  · rw [List.mem_filter] at hi
    exact ⟨List.mem_range.1 hi.1, hi.2⟩

theorem regE_any {anc : List Nat} {rs : List RIns} (hR : RegInfo P N ops rs anc) (hanc : ∀ j i, (anc.getD j 0).testBit i = true → Anc ops.toList i j) (hN : g.N = N) {lab : Nat → Lab} (hchk : ∀ (j : Nat) (r : RIns), rs[j]? = some r → ∀ i, i ∈ r.chk → apartL (lab i) (lab j) = true) {Q : Exit → Act → World → Prop} {sf : St}
    (hQ : ∀ a' w' blk', Repr g sf a' w' blk' → Q .normal a' w') :
    ∀ (fuel : Nat) (listed : Array Bool) (s : St) (a : Act) (w : World) (blk : Lay), listed.size = ops.size → (∀ (j : Nat) (o : Oper), ops[j]? = some o → listed.getD j true = true → ∀ e ∈ o.after, Region.binds .any e = true → listed.getD e.on false = true) →
      Repr g s a w blk → Run P rs lab ((List.range ops.size).filter fun j => !listed.getD j true) s sf → ((List.range ops.size).filter fun j => !listed.getD j true).length = fuel → wpAny P .any ops Q fuel listed a w := by
  intro fuel
  have done : ∀ (listed : Array Bool) (s : St) (a : Act) (w : World) (blk : Lay), listed.size = ops.size → Repr g s a w blk → Run P rs lab ((List.range ops.size).filter fun j => !listed.getD j true) s sf → Region.ready .any ops listed = [] → Q .normal a w := by
    intro listed s a w blk hs hr hrun hnil
    have hall : ∀ j, j < ops.size → listed.getD j true = true := by
      intro j
      induction j using Nat.strongRecOn with
      | _ j ih =>
        intro hj
        cases hl : listed.getD j true with
        | true => rfl
        | false =>
          exfalso
          have : j ∈ Region.ready .any ops listed := by
            unfold Region.ready
            rw [List.mem_filter]
            refine ⟨List.mem_range.2 hj, ?_⟩
            rw [Array.getElem?_eq_getElem hj]
            simp only [hl, Option.map_some, Option.getD_some, Bool.not_false, Bool.true_and, Array.all_eq_true', Bool.or_eq_true, Bool.not_eq_true']
            intro e he
            cases hb : Region.binds .any e with
            | false => exact .inl rfl
            | true =>
              have h1 := hR.back j _ (Array.getElem?_eq_getElem hj) e he hb
              have h2 := ih e.on h1 (by omega)
              refine .inr ?_
              rw [Array.getD_eq_getD_getElem?, Array.getElem?_eq_getElem (by omega)] at h2 ⊢
              exact h2
          rw [hnil] at this
          cases this
    have : (List.range ops.size).filter (fun j => !listed.getD j true) = [] := by
      rw [List.filter_eq_nil_iff]
      intro j hj
      simp [hall j (List.mem_range.1 hj)]
    rw [this] at hrun
    have e : s = sf := hrun
    exact hQ a w blk (e ▸ hr)
  induction fuel with
  | zero =>
    intro listed s a w blk hs hdown hr hrun hcount
    have hnil : Region.ready .any ops listed = [] := by
      rw [List.length_eq_zero_iff, List.filter_eq_nil_iff] at hcount
      unfold Region.ready
      rw [List.filter_eq_nil_iff]
      intro j hj
      have := hcount j hj
      simp only [Bool.not_eq_true', Bool.not_eq_false] at this
      simp [this]
    exact ⟨hnil, done listed s a w blk hs hr hrun hnil⟩
  | succ fuel ih =>
    intro listed s a w blk hs hdown hr hrun hcount
    refine ⟨fun hnil => done listed s a w blk hs hr hrun hnil, fun i hi => ?_⟩
    unfold Region.ready at hi
    rw [List.mem_filter] at hi
    obtain ⟨hi1, hi2⟩ := hi
    have hio := List.mem_range.1 hi1
    have ho := Array.getElem?_eq_getElem hio
    revert ho
    generalize ops[i] = o
    intro ho
    rw [ho] at hi2
    simp only [Option.map_some, Option.getD_some, Bool.and_eq_true, Bool.not_eq_true', Array.all_eq_true', Bool.or_eq_true] at hi2
    obtain ⟨hnl, haft⟩ := hi2
    have hpre : ∀ o', ops[i]? = some o' → ∀ e ∈ o'.after, Region.binds .any e = true → listed.getD e.on false = true := by
      intro o' ho' e he hb
      rw [ho] at ho'; cases ho'
      rcases haft e he with h | h
      · rw [hb] at h; cases h
      · exact h
    have hnext2 : ∀ j, j ≠ i → (listed.setIfInBounds i true).getD j true = listed.getD j true := by
      intro j e
      rw [Array.getD_eq_getD_getElem?, Array.getElem?_setIfInBounds, if_neg (Ne.symm e), ← Array.getD_eq_getD_getElem?]
    have hset : (listed.setIfInBounds i true).getD i true = true := by
      rw [Array.getD_eq_getD_getElem?, Array.getElem?_setIfInBounds, if_pos rfl]; simp [hs, hio]
    have hset2 : ∀ j, listed.getD j false = true → (listed.setIfInBounds i true).getD j false = true := by
      intro j hj
      rw [Array.getD_eq_getD_getElem?, Array.getElem?_setIfInBounds]
      by_cases e : i = j
      · subst e; simp [hs, hio]
      · rw [if_neg e, ← Array.getD_eq_getD_getElem?]; exact hj
    obtain ⟨L1, L2, e1, e2, e3⟩ := filter_split (p := fun j => !listed.getD j true) (q := fun j => !(listed.setIfInBounds i true).getD j true) hio (by simp [hnl]) (by simp [hset]) (fun j hj => by simp only [hnext2 j hj])
    rw [e1] at hrun hcount
    obtain ⟨r, s1, hri, ht, hrun1⟩ := bubble hR hN hchk L1 s a w blk hr (fun q hq => ⟨(e3 q hq).1, fun hb => by
      have h1 := anc_listed hdown hs (hanc i q hb) hpre
      have h2 : listed.getD q true = false := by simpa using (e3 q hq).2
      rw [Array.getD_eq_getD_getElem?] at h1 h2
      cases hq' : listed[q]? with
      | none => rw [hq'] at h1; cases h1
      | some b => rw [hq'] at h1 h2; simp at h1 h2; rw [h1] at h2; cases h2⟩) hrun
    obtain ⟨r', hr', hcr⟩ := hR.ins i o ho
    rw [hri] at hr'; cases hr'
    have cont : ∀ a' w' blk', Repr g s1 a' w' blk' → wpAny P .any ops Q fuel (listed.setIfInBounds i true) a' w' := by
      intro a' w' blk' hr'
      refine ih (listed.setIfInBounds i true) s1 a' w' blk' (by simpa using hs) ?_ hr' (by rw [e2]; exact hrun1) ?_
      · intro j o' hj hlj e he hb
        by_cases h1 : j = i
        · subst h1; exact hset2 _ (hpre o' hj e he hb)
        · rw [hnext2 j h1] at hlj
          exact hset2 _ (hdown j o' hj hlj e he hb)
      · rw [e2]
        simp at hcount ⊢
        omega
    unfold wpOp
    rw [ho]
    rcases tr_wp (ops := ops) hN hr hcr (hR.ok i r hri) ht with ⟨e, hok⟩ | ⟨e, hrr⟩
    · simp only [e, if_true]
      exact .inl (hok.wp fun s' blk' a' w' hs' hr' => cont a' w' blk' (by rw [hs'] at hr'; exact hr'))
    · simp only [e]
      exact cont _ _ _ hrr

theorem mkRs_get {f : Nat → Ins → RIns} : ∀ {l : List Ins} {n j : Nat} {i : Ins}, l[j]? = some i → ∃ r, (mkRs f n l)[j]? = some r ∧ r.i = i
  | [], _, _, _, h => by simp at h
  | x :: l, n, j, i, h => by
    cases j with
    | zero => simp at h; subst h; exact ⟨_, rfl, rfl⟩
    | succ j => exact mkRs_get (l := l) (n := n + 1) (by simpa using h)
theorem mkRs_len {f : Nat → Ins → RIns} : ∀ {l : List Ins} {n : Nat}, (mkRs f n l).length = l.length
  | [], _ => rfl
  | x :: l, n => by simp [mkRs, mkRs_len]

theorem regE_sound (hN : g.N = N) {id : Nat} {rs : List RIns} {K : St → Prop} {Q : Exit → Act → World → Prop} (hc : compE P N ops = some rs) (h : Repr g s a w blk) (hw : wpE P 0 rs [] s K)
    (hQ : ∀ s' a' w' blk', K s' → Repr g s' a' w' blk' → Q .normal a' w') : (Code.region id ops true).wp P Q a w := by
  unfold compE at hc
  split at hc
  case h_2 => cases hc
  rename_i is hci
  simp only at hc
  split at hc
  case isFalse => cases hc
  rename_i hif
  injection hc with hc
  simp only [Bool.and_eq_true] at hif
  obtain ⟨⟨⟨⟨hmix, hoks⟩, hback⟩, hpairs⟩, hnotes⟩ := hif
  rw [hc] at hoks hpairs hnotes
  obtain ⟨hlen, hget⟩ := compOps_get hci
  have hrl : rs.length = ops.size := by rw [← hc]; simp [mkR, mkRs_len, hlen]
  have hR : RegInfo P N ops rs (ancGo [] ops.toList) := by
    refine ⟨hrl, fun j o ho => ?_, fun j r hr => List.all_eq_true.1 hoks r (List.mem_of_getElem? hr), fun j o ho e he hb => ?_, fun i j x y hij hx hy => ?_⟩
    · obtain ⟨i, hi, hci⟩ := hget j o (by rw [Array.getElem?_toList]; exact ho)
      obtain ⟨r, hr, hri⟩ := mkRs_get (f := _) (n := 0) hi
      exact ⟨r, by rw [← hc]; exact hr, by rw [hri]; exact hci⟩
    · unfold edgesBack at hback
      have hj : j < ops.toList.length := by simpa using (Array.getElem?_eq_some_iff.1 ho).1
      have := List.all_eq_true.1 hback j (List.mem_range.2 hj)
      rw [Array.getElem?_toList, ho] at this
      simp only [Array.all_eq_true', Bool.or_eq_true, Bool.not_eq_true', decide_eq_true_eq] at this
      rcases this e he with h1 | h1
      · rw [hb] at h1; cases h1
      · exact h1
    · unfold pairsOk at hpairs
      have := List.all_eq_true.1 hpairs j (List.mem_range.2 (List.getElem?_eq_some_iff.1 hy).1)
      rw [hy] at this
      have := List.all_eq_true.1 this i (List.mem_range.2 hij)
      rw [hx] at this
      simp only [Bool.or_eq_true] at this
      rcases this with h1 | h1
      · exact .inl h1
      · split at h1
        · rename_i e; exact .inr (.inl e)
        · rename_i e; simp only [Bool.and_eq_true, List.contains_eq_mem, decide_eq_true_eq] at h1; exact .inr (.inr ⟨e, h1⟩)
        · cases h1
  have hnote : ∀ (j : Nat) (y : RIns), rs[j]? = some y → ∀ i, i ∈ y.chk → i < j ∧ ∃ x, rs[i]? = some x ∧ x.note = true := by
    intro j y hy i hi
    unfold notesOk at hnotes
    have := List.all_eq_true.1 hnotes j (List.mem_range.2 (List.getElem?_eq_some_iff.1 hy).1)
    rw [hy] at this
    have := List.all_eq_true.1 this i hi
    simp only [Bool.and_eq_true, decide_eq_true_eq] at this
    refine ⟨this.1, ?_⟩
    have h2 := this.2
    split at h2
    · exact ⟨_, ‹_›, h2⟩
    · cases h2
  have h1 : Repr g s a { w with drawn := w.drawn + 1 } blk := h.drew
  obtain ⟨lab, sf, _, hK, hrun, hchk⟩ := trace hR hnote hN rs.length 0 [] s a _ blk (fun _ => ([], true)) (by omega) (fun i x hi => absurd hi (by omega)) h1 hw
  refine wp_region_any hmix ?_
  have hlist : (List.range ops.size).filter (fun j => !(Array.replicate ops.size false).getD j true) = List.range ops.size := by
    rw [List.filter_eq_self]
    intro j hj
    have hlt := List.mem_range.1 hj
    rw [Array.getD_eq_getD_getElem?]
    simp [hlt]
  refine regE_any hR (ancGo_spec ops.toList ops.toList [] rfl (fun j i hb => by simp at hb)) hN (fun j r hr => hchk j r (by omega) hr) (fun a' w' blk' hr => hQ _ a' w' blk' hK hr) ops.size (Array.replicate ops.size false) s a _ blk (by simp) ?_ h1 ?_ (by rw [hlist, List.length_range])
  · intro j o hj hl
    exfalso
    have hlt : j < ops.size := (Array.getElem?_eq_some_iff.1 hj).1
    rw [Array.getD_eq_getD_getElem?] at hl
    simp [hlt] at hl
  · rw [hlist, List.range_eq_range', ← hrl]
    exact hrun
end

end Go.Proofs.Ytenfgllkjgfjpaa
