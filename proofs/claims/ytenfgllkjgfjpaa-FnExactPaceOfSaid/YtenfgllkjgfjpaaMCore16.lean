/- The abstract machine, part 16: regions that leave their order open, whose operations only read and call: every order comes to one end. -/
import Derived.Test.YtenfgllkjgfjpaaMCore15
import Derived.Orders
set_option linter.all false
namespace Go.Proofs.Ytenfgllkjgfjpaa
open Go.RowKit

def obSt (ob : Nat → Obj) : St := ⟨fun _ => .any, ob⟩

/-- A call by a contract, for a quiet region. -/
def callD (P : Program) (f : Nat) (avs : List AV) (ob : Nat → Obj) (k : AV → Prop) : Prop :=
  ∃ args res, PureF P f args res ∧ outs2 (obSt ob) avs args ∧ (avs.all AV.isData = true ∨ res.scalar = true) ∧ k res

def callvD (P : Program) (f : AV) (avs : List AV) (ob : Nat → Obj) (k : AV → Prop) : Prop :=
  match f with
  | .fn f l => (∃ fn, P.funcs[f]? = some fn ∧ fn.body.isSome = true ∧ (fn.name != "runtime.NumGoroutine") = true) ∧ callD P f (avs ++ l) ob k
  | _ => False

def valP (P : Program) (op : IOp) (ev : X → AV) (ob : Nat → Obj) (k : AV → Prop) : Prop :=
  match op with
  | .mv x => k (ev x)
  | .pick c a b => pickP (ev c) (ev a) (ev b) k
  | .bin op x y => binP op (ev x) (ev y) k
  | .beq n x y => beqP n (ev x) (ev y) k
  | .not x => notP (ev x) k
  | .neg x => negP (ev x) k
  | .idx n x i => idxP n (obSt ob) (ev x) (ev i) k
  | .ida m n x i => idaP m n (ev x) (ev i) k
  | .fld off x => fldP off (obSt ob) (ev x) k
  | .ld1 x => ld1P (obSt ob) (ev x) k
  | .ldn n x => ldnP n (obSt ob) (ev x) k
  | .slc n x lo hi mx => slcP n (ev x) (lo.map ev) (hi.map ev) (mx.map ev) k
  | .sla m n x h => slaP m n (obSt ob) (ev x) (ev h) k
  | .len x => lenP (obSt ob) (ev x) k
  | .slen x => slenP (ev x) k
  | .mn xs => mmP (fun x y => if y < x then y else x) (xs.map ev) k
  | .mx xs => mmP (fun x y => if x < y then y else x) (xs.map ev) k
  | .ext i x => extP i (ev x) k
  | .call f xs => callD P f (xs.map ev) ob k
  | .ixs x i => ixsP (ev x) (ev i) k
  | .nck x => nckP (ev x) k
  | .cvt 0 x => cvtP 0 (obSt ob) (ev x) k
  | .cvt 1 x => cvtP 1 (obSt ob) (ev x) k
  | .seq n x y => seqP n (ev x) (ev y) k
  | .scat x y => scatP (ev x) (ev y) k
  | .bit op x y => bitP op (ev x) (ev y) k
  | .binu op x y => binuP op (ev x) (ev y) k
  | .binw op x y => binwP op (ev x) (ev y) k
  | .sls x lo hi => slsP (ev x) (lo.map ev) (hi.map ev) k
  | .mkf f xs => (xs.map ev).all AV.cellOk = true ∧ k (.fn f (xs.map ev))
  | .bld zs ps => bldPs ⟨fun t => ev (.t t), ob⟩ ps zs fun l => k (.agg l)
  | .callv f xs => callvD P (ev f) (xs.map ev) ob k
  | _ => False

def insV (P : Program) (i : Ins) (ev : X → AV) (ob : Nat → Obj) (k : AV → Prop) : Prop :=
  match i.g with
  | none => valP P i.op ev ob k
  | some (t, want) => guardP (ev (.t t)) want (valP P i.op ev ob k) (k .und)

def wpQ (P : Program) : List Ins → St → (St → Prop) → Prop
  | [], s, K => K s
  | i :: l, s, K => insV P i s.ev s.objs fun v => wpQ P l (s.put i.d v) K

section
variable {P : Program} {g : Ghost} {s : St} {a : Act} {w : World} {blk : Lay} {ev ev' : X → AV} {ob : Nat → Obj} {k : AV → Prop}

theorem ev_x {x : X} (hk : ∀ a, ev (.k a) = ev' (.k a)) (h : ∀ t, t ∈ x.tm → ev (.t t) = ev' (.t t)) : ev x = ev' x := by
  cases x with
  | t n => exact h n (by simp [X.tm])
  | k a => exact hk a
theorem ev_xo {x : Option X} (hk : ∀ a, ev (.k a) = ev' (.k a)) (h : ∀ t, t ∈ X.tmo x → ev (.t t) = ev' (.t t)) : x.map ev = x.map ev' := by
  cases x with
  | none => rfl
  | some x => simp only [Option.map_some]; rw [ev_x hk h]
theorem ev_xs (hk : ∀ a, ev (.k a) = ev' (.k a)) : ∀ {xs : List X}, (∀ t, t ∈ xs.flatMap X.tm → ev (.t t) = ev' (.t t)) → xs.map ev = xs.map ev'
  | [], _ => rfl
  | x :: xs, h => by
    simp only [List.map_cons]
    rw [ev_x hk (fun t ht => h t (by simp [ht])), ev_xs hk (xs := xs) (fun t ht => h t (by rw [List.flatMap_cons]; exact List.mem_append_right _ ht))]

theorem bldPs_congr {s s' : St} {K : List AV → Prop} : ∀ {ps : List (Nat × Nat × X)} {l : List AV}, (∀ x, x ∈ ps.map (fun p => p.2.2) → s.ev x = s'.ev x) → bldPs s ps l K = bldPs s' ps l K
  | [], l, _ => rfl
  | (o, n, x) :: ps, l, h => by
    simp only [bldPs]
    rw [h x (by simp), bldPs_congr (ps := ps) (fun y hy => h y (by simp at hy ⊢; exact .inr hy))]
theorem valP_congr {op : IOp} {l : List Nat} (hl : op.reads = some l) (hk : ∀ a, ev (.k a) = ev' (.k a)) (h : ∀ t, t ∈ l → ev (.t t) = ev' (.t t)) : valP P op ev ob k = valP P op ev' ob k := by
  unfold IOp.reads at hl
  split at hl <;> first | cases hl | skip
  all_goals simp only [valP]
  all_goals first
    | rw [ev_x hk h]
    | rw [h _ (by simp)]
    | rw [ev_xs hk h]
    | (rename_i f xs; rw [ev_x (x := f) hk (fun t ht => h t (by simp [ht])), ev_xs (xs := xs) hk (fun t ht => h t (List.mem_append_right _ ht))])
    | (rename_i zs ps; refine bldPs_congr fun x hx => ?_; cases x with
        | t n => exact h n (List.mem_flatMap.2 ⟨_, hx, by simp [X.tm]⟩)
        | k a => rfl)
    | (rename_i c a b; rw [ev_x (x := c) hk (fun t ht => h t (by simp [ht])), ev_x (x := a) hk (fun t ht => h t (by simp [ht])), ev_x (x := b) hk (fun t ht => h t (by simp [ht]))])
    | (rename_i x y; rw [ev_x (x := x) hk (fun t ht => h t (by simp [ht])), ev_x (x := y) hk (fun t ht => h t (by simp [ht]))])
    | (rename_i x lo hi; rw [ev_x (x := x) hk (fun t ht => h t (by simp [ht])), ev_xo (x := lo) hk (fun t ht => h t (by simp [ht])), ev_xo (x := hi) hk (fun t ht => h t (by simp [ht]))])
    | (rename_i x lo hi m; rw [ev_x (x := x) hk (fun t ht => h t (by simp [ht])), ev_xo (x := lo) hk (fun t ht => h t (by simp [ht])), ev_xo (x := hi) hk (fun t ht => h t (by simp [ht])), ev_xo (x := m) hk (fun t ht => h t (by simp [ht]))])

theorem insV_congr {i : Ins} {l : List Nat} (hl : i.reads = some l) (hk : ∀ a, ev (.k a) = ev' (.k a)) (h : ∀ t, t ∈ l → ev (.t t) = ev' (.t t)) : insV P i ev ob k = insV P i ev' ob k := by
  unfold Ins.reads at hl
  simp only [Option.map_eq_some_iff] at hl
  obtain ⟨m, hm, rfl⟩ := hl
  unfold insV
  cases hg : i.g with
  | none => rw [hg] at h; exact valP_congr hm hk h
  | some p =>
    obtain ⟨t, want⟩ := p
    rw [hg] at h
    simp only at h ⊢
    rw [h t (by simp), valP_congr hm hk (fun t ht => h t (by simp [ht]))]

theorem outs1_ob (s : St) : ∀ (l l' : List AV), outs1 (obSt s.objs) l l' = outs1 s l l'
  | [], [] => rfl
  | [], _ :: _ => rfl
  | _ :: _, [] => rfl
  | x :: l, y :: l' => by
    simp only [outs1, outs1_ob s l l']
    rfl
theorem out2_ob (s : St) (x y : AV) : out2 (obSt s.objs) x y = out2 s x y := by
  have e : ∀ id, (obSt s.objs).ob id = s.ob id := fun _ => rfl
  unfold out2
  split
  · split
    · exact outs1_ob s _ _
    · rfl
  · split
    · rw [outs1_ob]
    · rfl
  · rw [e]
    split
    · split
      · exact outs1_ob s _ _
      · rfl
    · rfl
  · rfl
theorem outs2_ob (s : St) : ∀ (l l' : List AV), outs2 (obSt s.objs) l l' = outs2 s l l'
  | [], [] => rfl
  | [], _ :: _ => rfl
  | _ :: _, [] => rfl
  | x :: l, y :: l' => by
    simp only [outs2, outs2_ob s l l', out2_ob]

/-- What a quiet instruction asks, the step asks. -/
theorem stepI_of_valP {op : IOp} {l : List Nat} (hl : op.reads = some l) {d : Option Nat} {K : St → Prop} (h : valP P op s.ev s.objs fun v => K (s.put d v)) : stepI P d op s K := by
  unfold IOp.reads at hl
  split at hl <;> first | cases hl | skip
  all_goals simp only [valP] at h
  all_goals simp only [stepI]
  all_goals first
    | exact h
    | (obtain ⟨args, res, h1, h2, h3, h4⟩ := h
       rw [outs2_ob] at h2
       rcases h3 with h3 | h3
       · exact call_pure h1 h2 h3 h4
       · exact call_lend h1 h2 h3 h4)
    | (rename_i f xs
       revert h
       generalize s.ev f = fv
       intro h
       unfold callvD at h
       unfold callvP
       split at h
       · obtain ⟨hf, args, res, h1, h2, h3, h4⟩ := h
         rw [outs2_ob] at h2
         refine ⟨hf, ?_⟩
         rcases h3 with h3 | h3
         · exact call_pure h1 h2 h3 h4
         · exact call_lend h1 h2 h3 h4
       · exact h.elim)
    | (rw [← bldPs_congr (s := ⟨fun t => s.ev (.t t), s.objs⟩) (s' := s) (fun x _ => by cases x <;> rfl)]; exact h)

def DetP (F : (AV → Prop) → Prop) : Prop := ∀ k : AV → Prop, F k → ∃ r, k r ∧ ∀ k' : AV → Prop, k' r → F k'

theorem DetP.triv (r : AV) : DetP fun k => k r := fun _ h => ⟨r, h, fun _ h => h⟩
theorem DetP.false_ : DetP fun _ => False := fun _ h => h.elim
theorem DetP.and (p : Prop) {F : (AV → Prop) → Prop} (h : DetP F) : DetP fun k => p ∧ F k := fun k ⟨hp, hk⟩ => let ⟨r, h1, h2⟩ := h k hk; ⟨r, h1, fun k' h' => ⟨hp, h2 k' h'⟩⟩
theorem DetP.imp {p : Prop} (hp : p) {F : (AV → Prop) → Prop} (h : DetP F) : DetP fun k => p → F k := fun k hk => let ⟨r, h1, h2⟩ := h k (hk hp); ⟨r, h1, fun k' h' _ => h2 k' h'⟩

theorem pickP_det (c a b : AV) : DetP (pickP c a b) := by
  unfold pickP
  split
  · split
    · exact .triv _
    · rename_i t _ _ _
      intro k h
      cases t
      · exact ⟨_, h.2 rfl, fun k' h' => ⟨fun e => (by cases e), fun _ => h'⟩⟩
      · exact ⟨_, h.1 rfl, fun k' h' => ⟨fun _ => h', fun e => (by cases e)⟩⟩
  · exact .false_
theorem binP_det (op : BinOp) (x y : AV) : DetP (binP op x y) := by
  unfold binP
  split
  · unfold binI
    split <;> first | exact .triv _ | exact .false_ | exact .and _ (.triv _) | exact .and _ (.and _ (.triv _))
  · exact .false_
theorem beqP_det (n : Bool) (x y : AV) : DetP (beqP n x y) := by
  unfold beqP; split <;> first | exact .triv _ | exact .false_
theorem notP_det (x : AV) : DetP (notP x) := by unfold notP; split <;> first | exact .triv _ | exact .false_
theorem negP_det (x : AV) : DetP (negP x) := by unfold negP; split <;> first | exact .and _ (.triv _) | exact .false_
theorem idxP_det (n : Nat) (s : St) (x y : AV) : DetP (idxP n s x y) := by
  unfold idxP
  split
  case h_5 => split <;> first | exact .and _ (.and _ (.and _ (.and _ (.triv _)))) | exact .false_
  all_goals first | exact .and _ (.and _ (.and _ (.triv _))) | exact .false_
theorem idaP_det (m n : Nat) (x y : AV) : DetP (idaP m n x y) := by unfold idaP; split <;> first | exact .and _ (.and _ (.and _ (.and _ (.triv _)))) | exact .false_
theorem fldP_det (n : Nat) (s : St) (x : AV) : DetP (fldP n s x) := by
  unfold fldP
  split
  case h_4 => split <;> first | exact .and _ (.triv _) | exact .false_
  all_goals first | exact .triv _ | exact .false_
theorem nckP_det (x : AV) : DetP (nckP x) := by unfold nckP; split <;> first | exact .triv _ | exact .false_
theorem cvtP_det (n : Nat) (hn : n = 0 ∨ n = 1) (s : St) (x : AV) : DetP (cvtP n s x) := by
  rcases hn with rfl | rfl
  · unfold cvtP; simp only; split <;> first | exact .triv _ | exact .false_
  · unfold cvtP; simp only; split <;> first | exact .triv _ | exact .false_
theorem seqP_det (n : Bool) (x y : AV) : DetP (seqP n x y) := by unfold seqP; split <;> first | exact .triv _ | exact .false_
theorem scatP_det (x y : AV) : DetP (scatP x y) := by unfold scatP; split <;> first | exact .and _ (.triv _) | exact .false_
theorem bitP_det (op : BinOp) (x y : AV) : DetP (bitP op x y) := by
  unfold bitP; split
  · split <;> first | exact .triv _ | exact .and _ (.triv _) | exact .false_
  · exact .false_
theorem binuP_det (op : BinOp) (x y : AV) : DetP (binuP op x y) := by
  unfold binuP; split
  · split <;> first | exact .triv _ | exact .false_
  · exact .false_
theorem binwP_det (op : BinOp) (x y : AV) : DetP (binwP op x y) := by
  unfold binwP; split
  · split <;> first | exact .triv _ | exact .false_
  · exact .false_
theorem slsP_det (x : AV) (lo hi : Option AV) : DetP (slsP x lo hi) := by
  unfold slsP
  split <;> first | exact .false_ | exact .and _ (.and _ (.triv _)) | exact .and _ (.and _ (.and _ (.triv _)))
theorem ld1P_det (s : St) (x : AV) : DetP (ld1P s x) := by
  unfold ld1P; split
  · split
    · split <;> first | exact .triv _ | exact .false_
    · exact .false_
  · split <;> first | exact .and _ (.and _ (.and _ (.triv _))) | exact .false_
  · split
    · refine .and _ ?_
      split <;> first | exact .and _ (.and _ (.and _ (.triv _))) | exact .false_
    · exact .false_
  · split <;> first | exact .triv _ | exact .false_
  · exact .false_
theorem ldnP_det (n : Nat) (s : St) (x : AV) : DetP (ldnP n s x) := by
  unfold ldnP; split
  · split <;> first | exact .and _ (.triv _) | exact .false_
  · split <;> first | exact .and _ (.and _ (.and _ (.triv _))) | exact .false_
  · split
    · refine .and _ ?_
      split <;> first | exact .and _ (.and _ (.and _ (.triv _))) | exact .false_
    · exact .false_
  · exact .and _ (.triv _)
  · exact .false_
theorem slcP_det (n : Nat) (x : AV) (lo hi m : Option AV) : DetP (slcP n x lo hi m) := by
  unfold slcP
  split <;> first | exact .false_ | exact .and _ (.triv _) | exact .and _ (.and _ (.triv _)) | exact .and _ (.and _ (.and _ (.triv _))) | exact .and _ (.and _ (.and _ (.and _ (.triv _)))) | exact .and _ (.and _ (.and _ (.and _ (.and _ (.triv _)))))
theorem slaP_det (m n : Nat) (s : St) (x y : AV) : DetP (slaP m n s x y) := by
  unfold slaP
  split
  · split <;> first | exact .false_ | exact .and _ (.and _ (.and _ (.and _ (.and _ (.triv _)))))
  · exact .false_
theorem mmP_det (f : Int → Int → Int) (l : List AV) : DetP (mmP f l) := by unfold mmP; split <;> first | exact .triv _ | exact .false_
theorem extP_det (i : Nat) (x : AV) : DetP (extP i x) := by
  unfold extP; split
  · split <;> first | exact .triv _ | exact .false_
  · exact .false_
theorem ixsP_det (x y : AV) : DetP (ixsP x y) := by unfold ixsP; split <;> first | exact .and _ (.and _ (.triv _)) | exact .false_
theorem callD_det (f : Nat) (avs : List AV) (ob : Nat → Obj) : DetP (callD P f avs ob) :=
  fun _ ⟨args, res, h1, h2, h3, h4⟩ => ⟨res, h4, fun _ h' => ⟨args, res, h1, h2, h3, h'⟩⟩
theorem callvD_det (f : AV) (avs : List AV) (ob : Nat → Obj) : DetP (callvD P f avs ob) := by
  unfold callvD; split
  · exact .and _ (callD_det _ _ _)
  · exact .false_
theorem bldPs_det (s : St) : ∀ (ps : List (Nat × Nat × X)) (l : List AV), DetP fun k => bldPs s ps l fun l => k (.agg l)
  | [], l => .triv _
  | (o, n, x) :: ps, l => by
    simp only [bldPs]
    exact .and _ (.and _ (.and _ (bldPs_det s ps _)))
theorem lenP_det (h : Repr g s a w blk) {v : Value} {x : AV} (hx : RVs g s w blk v x) : DetP (lenP s x) := by
  have rd : ∀ {n : Nat} {rows : List (List C)}, Rd w (Good g s.objs blk w) v (.sl n rows) → rows.length ≤ maxLen := by
    intro n rows hr
    cases hr; omega
  unfold lenP
  split
  · exact .imp (rd hx.c) (.triv _)
  · obtain ⟨_, _, _, hr⟩ := hx
    exact .imp (rd hr) (.triv _)
  · rename_i id n m
    obtain ⟨rows, _, _, hh⟩ := hx
    refine .imp ?_ (.triv _)
    rcases hh with ⟨_, e0, _⟩ | ⟨_, _, _, _, _, _, e1, e2, _⟩
    · omega
    · omega
  · obtain ⟨_, _, _, _, _, _, h1, h2, _⟩ := hx
    exact .imp (by omega) (.triv _)
  · split
    · rename_i k0 ver' rows hO
      intro k hk
      obtain ⟨rfl, hk⟩ := hk
      obtain ⟨A, cap, _, hm⟩ := slen_sub_ok h hO hx
      exact ⟨_, hk hm, fun k' h' => ⟨rfl, fun _ => h'⟩⟩
    · exact .false_
  · exact .triv _
  · exact .false_
theorem slenP_det {v : Value} {x : AV} (h : RVs g s w blk v x) : DetP (slenP x) := by
  unfold slenP
  split
  · exact .imp h.str.2 (.triv _)
  · exact .false_

theorem RVs_any (h : Repr g s a w blk) (t : Nat) : RVs g s w blk (g.val a t) (s.ev (.t t)) := h.env t
/-- A quiet instruction has one result. -/
theorem valP_det (h : Repr g s a w blk) {op : IOp} {l : List Nat} (hl : op.reads = some l) : DetP (valP P op s.ev s.objs) := by
  unfold IOp.reads at hl
  split at hl <;> first | cases hl | skip
  all_goals unfold valP
  all_goals first
    | exact .triv _
    | exact notP_det _
    | exact negP_det _
    | exact fldP_det _ _ _
    | exact ld1P_det _ _
    | exact ldnP_det _ _ _
    | exact extP_det _ _
    | exact lenP_det (s := s) h (RVs_any h _)
    | exact slenP_det (RVs_any h _)
    | exact nckP_det _
    | exact cvtP_det _ (.inl rfl) _ _
    | exact cvtP_det _ (.inr rfl) _ _
    | exact seqP_det _ _ _
    | exact scatP_det _ _
    | exact bitP_det _ _ _
    | exact binuP_det _ _ _
    | exact binwP_det _ _ _
    | exact slsP_det _ _ _
    | exact .and _ (.triv _)
    | exact pickP_det _ _ _
    | exact binP_det _ _ _
    | exact beqP_det _ _ _
    | exact idxP_det _ _ _ _
    | exact idaP_det _ _ _ _
    | exact ixsP_det _ _
    | exact slcP_det _ _ _ _ _
    | exact slaP_det _ _ _ _ _
    | exact mmP_det _ _
    | exact callD_det _ _ _
    | exact callvD_det _ _ _
    | exact bldPs_det _ _ _

theorem insV_det (h : Repr g s a w blk) {i : Ins} {l : List Nat} (hl : i.reads = some l) : DetP (insV P i s.ev s.objs) := by
  unfold Ins.reads at hl
  simp only [Option.map_eq_some_iff] at hl
  obtain ⟨m, hm, _⟩ := hl
  have hd := valP_det (P := P) h hm
  unfold insV
  cases hg : i.g with
  | none => exact hd
  | some p =>
    obtain ⟨t, want⟩ := p
    simp only
    unfold guardP
    intro k hk
    split at hk
    · rename_i v hv
      by_cases e : v = want
      · obtain ⟨r, h1, h2⟩ := hd k (hk.1 e)
        exact ⟨r, h1, fun k' h' => ⟨fun _ => h2 k' h', fun e' => (by subst e; cases v <;> cases e')⟩⟩
      · exact ⟨.und, hk.2 (by cases v <;> cases want <;> simp_all), fun k' h' => ⟨fun e' => absurd e' e, fun _ => h'⟩⟩
    · exact ⟨.und, hk, fun k' h' => h'⟩
    · exact hk.elim
end

end Go.Proofs.Ytenfgllkjgfjpaa
