/- The abstract machine, part G: two steps that change places. -/
import Derived.Test.YtenfgllkjgfjpaaMCoreF
set_option linter.all false
namespace Go.Proofs.Ytenfgllkjgfjpaa
open Go.RowKit

def TrQ (P : Program) (i : Ins) (lab : Lab) (s s' : St) : Prop :=
  ∃ v, s' = s.put i.d v ∧ (∀ k : AV → Prop, k v → insV P i s.ev s.objs k) ∧ lab = labQ i s v
def TrM (P : Program) (i : Ins) (lab : Lab) (s s' : St) : Prop :=
  ∃ e o v, i.d = some e ∧ s.objs e = .none ∧ s' = ⟨upd e v s.env, upd e o s.objs⟩ ∧ o.bare ∧ (∀ j, j ∈ v.ids → j = e) ∧ (∀ x, x ∈ i.op.xs → (s.ev x).ids = [] ∧ (s.ev x).cl = true) ∧ lab = labM i ∧
    ∀ s2 : St, (∀ x, x ∈ i.op.xs → s2.ev x = s.ev x) → s2.objs e = .none → ∀ K2 : St → Prop, K2 ⟨upd e v s2.env, upd e o s2.objs⟩ → stepF P i.d i.op s2 K2
def TrE (P : Program) (i : Ins) (lab : Lab) (s s' : St) : Prop :=
  ∃ Kl U v, s' = s.act Kl U i.d v ∧ EffOk P i.op i.d s lab.1 Kl U v ∧ (∀ j, j ∈ lab.1 → (∃ x, x ∈ i.op.xs ∧ j ∈ (s.ev x).ids) ∨ i.d = some j) ∧ lab.2 = true

/-- The object d is none: nothing names it. -/
def Clear (s : St) (d : Nat) : Prop := (∀ t, d ∉ (s.env t).ids) ∧ ∀ i cells, s.objs i = .box cells → ∀ x, x ∈ cells → d ∉ x.ids0
def Sound (s : St) : Prop := ∀ d, s.objs d = .none → Clear s d

theorem rv1_live {w : World} {G : Nat → Prop} {O : Nat → Obj} {blk : Nat → Option Nat} {v : Value} {x : AV} (h : RV1 w G O blk v x) {i : Nat} (hi : i ∈ x.ids1) : O i ≠ .none := by
  cases x <;> simp only [AV.ids1, AV.ids0, List.mem_singleton, List.not_mem_nil] at hi <;> try (exact hi.elim)
  · subst hi; obtain ⟨b, cells, ho, _⟩ := h; rw [ho]; simp
  · subst hi; obtain ⟨b, m, ho, _⟩ := h; intro e; rw [e] at ho; cases ho
  · subst hi; obtain ⟨m, ho, _⟩ := h; intro e; rw [e] at ho; cases ho
  · exact h.elim
  · subst hi; obtain ⟨_, _, _, ho, _⟩ := h; rw [ho]; simp
  · subst hi; obtain ⟨_, _, _, ho, _⟩ := h; rw [ho]; simp
  · subst hi; obtain ⟨m, A, c, ho, _⟩ := h; intro e; rw [e] at ho; cases ho
  · exact h.elim
theorem rv2_live {w : World} {G : Nat → Prop} {O : Nat → Obj} {blk : Nat → Option Nat} {v : Value} {x : AV} (h : RV2 w G O blk v x) {i : Nat} (hi : i ∈ x.ids2) : O i ≠ .none := by
  cases x
  case agg l =>
    obtain ⟨arr, _, _, hl⟩ := h
    obtain ⟨y, hy, hi⟩ := List.mem_flatMap.1 hi
    obtain ⟨j, hj⟩ := List.getElem?_of_mem hy
    obtain ⟨u, _, hr⟩ := hl j y hj
    exact rv1_live hr hi
  case fn f l =>
    obtain ⟨arr, _, _, hl⟩ := h
    obtain ⟨y, hy, hi⟩ := List.mem_flatMap.1 hi
    obtain ⟨j, hj⟩ := List.getElem?_of_mem hy
    obtain ⟨u, _, hr⟩ := hl j y hj
    exact rv1_live hr hi
  all_goals (simp only [RV2] at h; simp only [AV.ids2] at hi; exact rv1_live h hi)
theorem rv_live {w : World} {G : Nat → Prop} {O : Nat → Obj} {blk : Nat → Option Nat} {v : Value} {x : AV} (h : RV w G O blk v x) {i : Nat} (hi : i ∈ x.ids) : O i ≠ .none := by
  cases x
  case tup l =>
    obtain ⟨arr, _, _, hl⟩ := h
    obtain ⟨y, hy, hi⟩ := List.mem_flatMap.1 hi
    obtain ⟨j, hj⟩ := List.getElem?_of_mem hy
    obtain ⟨u, _, hr⟩ := hl j y hj
    exact rv2_live hr hi
  all_goals (simp only [RV] at h; simp only [AV.ids] at hi; exact rv2_live h hi)
theorem Repr.sound {g : Ghost} {s : St} {a : Act} {w : World} {blk : Lay} (h : Repr g s a w blk) : Sound s := by
  intro d hd
  refine ⟨fun t hi => rv_live (h.env t) hi hd, fun i cells ho x hx hi => ?_⟩
  have := h.objs i
  rw [ho] at this
  obtain ⟨q, arr, e, _, _, _, hc⟩ := this
  obtain ⟨j, hj⟩ := List.getElem?_of_mem hx
  obtain ⟨u, _, hr⟩ := hc j x hj
  exact rv1_live hr (ids0_ids1 hi) hd

theorem ev_of {s s2 : St} {x : X} (h : ∀ t, t ∈ x.tm → s2.env t = s.env t) : s2.ev x = s.ev x := by
  cases x with
  | t n => exact h n (by simp [X.tm])
  | k a => rfl
theorem evs_of {i : Ins} {s s2 : St} (h : ∀ t, t ∈ i.rdx → s2.env t = s.env t) : ∀ x, x ∈ i.op.xs → s2.ev x = s.ev x :=
  fun x hx => ev_of fun t ht => h t (List.mem_append_right _ (List.mem_flatMap.2 ⟨x, hx, ht⟩))
theorem labQ_eq {i : Ins} {s s2 : St} {v : AV} (h : ∀ x, x ∈ i.op.xs → s2.ev x = s.ev x) : labQ i s2 v = labQ i s v := by
  unfold labQ; rw [List.map_congr_left h]
theorem labQ_ids {i : Ins} {s : St} {v : AV} : (∀ j, j ∈ v.ids → j ∈ (labQ i s v).1) ∧ ∀ x, x ∈ i.op.xs → ∀ j, j ∈ (s.ev x).ids → j ∈ (labQ i s v).1 := by
  refine ⟨fun j hj => List.mem_flatMap.2 ⟨v, by simp, hj⟩, fun x hx j hj => List.mem_flatMap.2 ⟨s.ev x, List.mem_cons_of_mem _ (List.mem_map_of_mem hx), hj⟩⟩
theorem labQ_cl {i : Ins} {s : St} {v : AV} (h : (labQ i s v).2 = true) : v.cl = true ∧ ∀ x, x ∈ i.op.xs → (s.ev x).cl = true := by
  have := List.all_eq_true.1 h
  exact ⟨this v (by simp), fun x hx => this _ (List.mem_cons_of_mem _ (List.mem_map_of_mem hx))⟩

theorem guardP_x {x : AV} {want : Bool} {A B : Prop} (h : guardP x want A B) : (∃ b, x = .c (.b b)) ∨ x = .und := by
  unfold guardP at h
  split at h
  · exact .inl ⟨_, rfl⟩
  · exact .inr rfl
  · exact h.elim
theorem insV_guard {P : Program} {i : Ins} {ev : X → AV} {ob : Nat → Obj} {k : AV → Prop} (h : insV P i ev ob k) : ∀ t b, i.g = some (t, b) → (∃ b, ev (.t t) = .c (.b b)) ∨ ev (.t t) = .und := by
  intro t b hg
  unfold insV at h
  rw [hg] at h
  exact guardP_x h
theorem insV_lift {P : Program} {i : Ins} {ev ev' : X → AV} {ob ob' : Nat → Obj} {v : AV} (hg : ∀ t b, i.g = some (t, b) → ev' (.t t) = ev (.t t))
    (hv : (∀ k : AV → Prop, k v → valP P i.op ev ob k) → ∀ k : AV → Prop, k v → valP P i.op ev' ob' k) (h : ∀ k : AV → Prop, k v → insV P i ev ob k) : ∀ k : AV → Prop, k v → insV P i ev' ob' k := by
  intro k hk
  unfold insV at h ⊢
  cases hg' : i.g with
  | none => rw [hg'] at h; exact hv h k hk
  | some p =>
    obtain ⟨t, b⟩ := p
    rw [hg'] at h
    simp only at h ⊢
    rw [hg t b hg']
    have h1 := h k hk
    unfold guardP at h h1 ⊢
    split at h1
    · rename_i v' hv'
      refine ⟨fun e => ?_, h1.2⟩
      refine hv (fun k2 hk2 => ?_) k hk
      have := h k2 hk2
      rw [hv'] at this
      exact this.1 e
    · exact h1
    · exact h1.elim

structure Apart (x y : Ins) : Prop where
  xy : ∀ d, x.d = some d → d ∉ y.rdx
  ne : ∀ d, x.d = some d → y.d ≠ some d
  yx : ∀ d, y.d = some d → d ∉ x.rdx
theorem apart_of {x y : Ins} (h : apartI x y = true) : Apart x y := by
  unfold apartI at h
  rw [Bool.and_eq_true] at h
  refine ⟨fun d e => ?_, fun d e => ?_, fun d e => ?_⟩
  · have := h.1; rw [e] at this; simp at this; exact this.1
  · have := h.1; rw [e] at this; simp at this; exact this.2
  · have := h.2; rw [e] at this; simp at this; exact this
theorem Apart.put_xy {x y : Ins} (h : Apart x y) {s : St} {v : AV} : ∀ t, t ∈ y.rdx → (s.put x.d v).env t = s.env t := fun t ht => put_ne fun e => h.xy t e ht
theorem Apart.put_yx {x y : Ins} (h : Apart x y) {s : St} {v : AV} : ∀ t, t ∈ x.rdx → (s.put y.d v).env t = s.env t := fun t ht => put_ne fun e => h.yx t e ht
theorem guard_rd {i : Ins} {t : Nat} {b : Bool} (h : i.g = some (t, b)) : t ∈ i.rdx := by unfold Ins.rdx; rw [h]; simp
theorem put_comm {s : St} {d e : Option Nat} {u v : AV} (h : ∀ t, d = some t → e ≠ some t) : (s.put d u).put e v = (s.put e v).put d u := by
  refine St.ext' (fun t => ?_) fun i => by rw [put_objs, put_objs, put_objs, put_objs]
  by_cases h1 : e = some t
  · have h2 : d ≠ some t := fun h' => h t h' h1
    rw [put_eq h1, put_ne h2, put_eq h1]
  · rw [put_ne h1]
    by_cases h2 : d = some t
    · rw [put_eq h2, put_eq h2]
    · rw [put_ne h2, put_ne h2, put_ne h1]

section
variable {P : Program} {x y : Ins} {s s1 s2 : St} {lx ly : Lab}

theorem swapQQ (hy : y.op.reads.isSome = true) (hx : x.op.reads.isSome = true) (ha : Apart x y) (h1 : TrQ P x lx s s1) (h2 : TrQ P y ly s1 s2) : ∃ s1', TrQ P y ly s s1' ∧ TrQ P x lx s1' s2 := by
  obtain ⟨u, rfl, hu, rfl⟩ := h1
  obtain ⟨v, rfl, hv, rfl⟩ := h2
  have ey := evs_of (i := y) (s := s.put x.d u) (s2 := s) fun t ht => (ha.put_xy t ht).symm
  have ex := evs_of (i := x) (s := s) (s2 := s.put y.d v) fun t ht => ha.put_yx t ht
  refine ⟨s.put y.d v, ⟨v, rfl, ?_, ?_⟩, ⟨u, put_comm ha.ne, ?_, ?_⟩⟩
  · rw [put_objs] at hv
    exact insV_lift (fun t b hg => (ha.put_xy t (guard_rd hg)).symm) (fun H k hk => valP_ev hy ey (H k hk)) hv
  · exact (labQ_eq ey).symm
  · rw [put_objs]
    exact insV_lift (ev := s.ev) (fun t b hg => ha.put_yx t (guard_rd hg)) (fun H k hk => valP_ev hx ex (H k hk)) hu
  · exact (labQ_eq ex).symm

theorem ids_ev {s : St} {d : Nat} (hc : Clear s d) {x : X} (hk : x.kok = true) : d ∉ (s.ev x).ids := by
  cases x with
  | t n => exact hc.1 n
  | k a =>
    have : a.ids = [] := by simpa [X.kok] using hk
    show d ∉ a.ids
    rw [this]; simp

theorem new_ne {s : St} {e : Nat} {v : AV} {o : Obj} {t : Nat} (h : t ≠ e) : (⟨upd e v s.env, upd e o s.objs⟩ : St).env t = s.env t := by
  show upd e v s.env t = _; rw [upd_apply, if_neg h]
theorem new_eq {s : St} {e : Nat} {v : AV} {o : Obj} : (⟨upd e v s.env, upd e o s.objs⟩ : St).env e = v := by
  show upd e v s.env e = _; rw [upd_apply, if_pos rfl]
theorem new_one {s : St} {e : Nat} {v : AV} {o : Obj} {i : Nat} (h : i ≠ e) : (⟨upd e v s.env, upd e o s.objs⟩ : St).objs i = s.objs i := by
  show upd e o s.objs i = _; rw [upd_apply, if_neg h]
theorem new_oeq {s : St} {e : Nat} {v : AV} {o : Obj} : (⟨upd e v s.env, upd e o s.objs⟩ : St).objs e = o := by
  show upd e o s.objs e = _; rw [upd_apply, if_pos rfl]
theorem put_new {s : St} {e : Nat} {u v : AV} {o : Obj} {d : Option Nat} (h : d ≠ some e) : (⟨upd e v (s.put d u).env, upd e o (s.put d u).objs⟩ : St) = (⟨upd e v s.env, upd e o s.objs⟩ : St).put d u := by
  refine St.ext' (fun t => ?_) fun i => by rw [put_objs]; rw [put_objs]
  by_cases h1 : t = e
  · subst h1; rw [new_eq, put_ne h, new_eq]
  · rw [new_ne h1]
    by_cases h2 : d = some t
    · rw [put_eq h2, put_eq h2]
    · rw [put_ne h2, put_ne h2, new_ne h1]

theorem swapQM (hs : Sound s) (hx : x.op.reads.isSome = true) (hk : x.op.xs.all X.kok = true) (ha : Apart x y) (h1 : TrQ P x lx s s1) (h2 : TrM P y ly s1 s2) : ∃ s1', TrM P y ly s s1' ∧ TrQ P x lx s1' s2 := by
  obtain ⟨u, rfl, hu, rfl⟩ := h1
  obtain ⟨e, o, v, hd, h0, rfl, hb, hv, hxs, rfl, ag⟩ := h2
  rw [put_objs] at h0
  have ey := evs_of (i := y) (s := s.put x.d u) (s2 := s) fun t ht => (ha.put_xy t ht).symm
  have ev : ∀ t, t ∈ x.rdx → (⟨upd e v s.env, upd e o s.objs⟩ : St).env t = s.env t := fun t ht => new_ne fun h => ha.yx e hd (h ▸ ht)
  have ex := evs_of (i := x) ev
  have hc := hs e h0
  have hne : x.d ≠ some e := fun h => ha.ne e h hd
  refine ⟨⟨upd e v s.env, upd e o s.objs⟩, ⟨e, o, v, hd, h0, rfl, hb, hv, fun z hz => by rw [ey z hz]; exact hxs z hz, rfl, fun s3 h3 h4 K hK => ag s3 (fun z hz => (h3 z hz).trans (ey z hz)) h4 K hK⟩, ⟨u, put_new hne, ?_, (labQ_eq ex).symm⟩⟩
  refine insV_lift (ev := s.ev) (ob := s.objs) (fun t b hg => ev t (guard_rd hg)) (fun H k hk' => valP_ev hx ex ?_) hu
  exact valP_obM hx (e := e) (fun i hi => new_one hi) hc.2 (fun z hz => ids_ev hc (List.all_eq_true.1 hk z hz)) H k hk'

theorem swapMQ (hs : Sound s) (hy : y.op.reads.isSome = true) (hk : y.op.xs.all X.kok = true) (ha : Apart x y) (h1 : TrM P x lx s s1) (h2 : TrQ P y ly s1 s2) : ∃ s1', TrQ P y ly s s1' ∧ TrM P x lx s1' s2 := by
  obtain ⟨e, o, v, hd, h0, rfl, hb, hv, hxs, rfl, ag⟩ := h1
  obtain ⟨u, rfl, hu, rfl⟩ := h2
  have ev : ∀ t, t ∈ y.rdx → s.env t = (⟨upd e v s.env, upd e o s.objs⟩ : St).env t := fun t ht => (new_ne fun (h : t = e) => ha.xy e hd (h ▸ ht)).symm
  have ey := evs_of (i := y) ev
  have ex := evs_of (i := x) (s := s) (s2 := s.put y.d u) fun t ht => ha.put_yx t ht
  have hc := hs e h0
  have hne : y.d ≠ some e := ha.ne e hd
  refine ⟨s.put y.d u, ⟨u, rfl, ?_, (labQ_eq ey).symm⟩, ⟨e, o, v, hd, by rw [put_objs]; exact h0, (put_new hne).symm, hb, hv, fun z hz => by rw [ex z hz]; exact hxs z hz, rfl, fun s3 h3 h4 K hK => ag s3 (fun z hz => (h3 z hz).trans (ex z hz)) h4 K hK⟩⟩
  refine insV_lift (ev := (⟨upd e v s.env, upd e o s.objs⟩ : St).ev) (fun t b hg => ev t (guard_rd hg)) (fun H k hk' => valP_ev hy ey ?_) hu
  refine valP_obM hy (e := e) (fun i hi => (new_one hi).symm) (fun i cells hi z hz => ?_) (fun z hz => by rw [← ey z hz]; exact ids_ev hc (List.all_eq_true.1 hk z hz)) H k hk'
  by_cases h : i = e
  · subst h
    have hi' : o = .box cells := by rw [new_oeq] at hi; exact hi
    subst hi'
    intro hc'
    have := hb z hz
    have h5 := ids0_ids1 hc'
    rw [this] at h5; cases h5
  · rw [new_one h] at hi
    exact hc.2 i cells hi z hz

theorem swapMM (ha : Apart x y) (h1 : TrM P x lx s s1) (h2 : TrM P y ly s1 s2) : ∃ s1', TrM P y ly s s1' ∧ TrM P x lx s1' s2 := by
  obtain ⟨e, o, v, hd, h0, rfl, hb, hv, hxs, rfl, ag⟩ := h1
  obtain ⟨e', o', v', hd', h0', rfl, hb', hv', hxs', rfl, ag'⟩ := h2
  have hne : e ≠ e' := fun h => ha.ne e hd (h ▸ hd')
  rw [new_one (Ne.symm hne)] at h0'
  have ey := evs_of (i := y) (s := ⟨upd e v s.env, upd e o s.objs⟩) (s2 := s) fun t ht => (new_ne fun (h : t = e) => ha.xy e hd (h ▸ ht)).symm
  have ex := evs_of (i := x) (s := s) (s2 := ⟨upd e' v' s.env, upd e' o' s.objs⟩) fun t ht => new_ne fun h => ha.yx e' hd' (h ▸ ht)
  refine ⟨⟨upd e' v' s.env, upd e' o' s.objs⟩, ⟨e', o', v', hd', h0', rfl, hb', hv', fun z hz => by rw [ey z hz]; exact hxs' z hz, rfl, fun s3 h3 h4 K hK => ag' s3 (fun z hz => (h3 z hz).trans (ey z hz)) h4 K hK⟩,
    ⟨e, o, v, hd, by rw [new_one hne]; exact h0, ?_, hb, hv, fun z hz => by rw [ex z hz]; exact hxs z hz, rfl, fun s3 h3 h4 K hK => ag s3 (fun z hz => (h3 z hz).trans (ex z hz)) h4 K hK⟩⟩
  refine St.ext' (fun t => ?_) fun i => ?_
  · by_cases h1 : t = e
    · subst h1; rw [new_ne hne, new_eq, new_eq]
    · by_cases h2 : t = e'
      · subst h2; rw [new_eq, new_ne h1, new_eq]
      · rw [new_ne h2, new_ne h1, new_ne h1, new_ne h2]
  · by_cases h1 : i = e
    · subst h1; rw [new_one hne, new_oeq, new_oeq]
    · by_cases h2 : i = e'
      · subst h2; rw [new_oeq, new_one h1, new_oeq]
      · rw [new_one h2, new_one h1, new_one h1, new_one h2]

theorem put_act {s : St} {d e : Option Nat} {u v : AV} {Kl : List Nat} {U : List (Nat × Obj)} (h : ∀ t, d = some t → e ≠ some t) (hu : ∀ j, j ∈ Kl → j ∉ u.ids) : (s.put d u).act Kl U e v = (s.act Kl U e v).put d u := by
  refine St.ext' (fun t => ?_) fun i => by rw [act_objs, put_objs, put_objs, act_objs]
  by_cases h1 : e = some t
  · have h2 : d ≠ some t := fun h' => h t h' h1
    rw [act_eq h1, put_ne h2, act_eq h1]
  · rw [act_ne h1]
    by_cases h2 : d = some t
    · rw [put_eq h2, put_eq h2, kills_free hu]
    · rw [put_ne h2, put_ne h2, act_ne h1]
theorem actO_free {Kl : List Nat} {U : List (Nat × Obj)} {W : List Nat} {o : Obj} {i : Nat} (h1 : ∀ j, j ∈ Kl → j ∈ W) (h2 : ∀ p, p ∈ U → p.1 ∈ W) (h : i ∉ W) : actO Kl U o i = o.kills Kl :=
  actO_not (fun hj => h (h1 i hj)) fun p hp e => h (e ▸ h2 p hp)

theorem swapQE (hx : x.op.reads.isSome = true) (hcall : x.op.isCall = false) (hk : x.op.xs.all X.kok = true) (ha : Apart x y) (hdis : ∀ j, j ∈ lx.1 → j ∉ ly.1) (h1 : TrQ P x lx s s1) (h2 : TrE P y ly s1 s2) : ∃ s1', TrE P y ly s s1' ∧ TrQ P x lx s1' s2 := by
  obtain ⟨u, rfl, hu, rfl⟩ := h1
  obtain ⟨Kl, U, v, rfl, ok, hl, hcl⟩ := h2
  have ey := evs_of (i := y) (s := s.put x.d u) (s2 := s) fun t ht => (ha.put_xy t ht).symm
  obtain ⟨l1, l2⟩ := labQ_ids (i := x) (s := s) (v := u)
  have hfree : ∀ {a : AV}, (∀ j, j ∈ a.ids → j ∈ (labQ x s u).1) → a.kills Kl = a := fun h => kills_free fun j hj hi => hdis j (h j hi) (ok.kl j hj)
  have ex : ∀ z, z ∈ x.op.xs → (s.act Kl U y.d v).ev z = s.ev z := by
    intro z hz
    cases z with
    | t n =>
      show (s.act Kl U y.d v).env n = s.env n
      rw [act_ne fun e => ha.yx n e (List.mem_append_right _ (List.mem_flatMap.2 ⟨_, hz, by simp [X.tm]⟩))]
      exact hfree fun j hj => l2 _ hz j hj
    | k a => rfl
  refine ⟨s.act Kl U y.d v, ⟨Kl, U, v, rfl, ⟨ok.kl, ok.up, fun s3 h3 h4 h5 K hK => ok.again s3 (fun z hz => (h3 z hz).trans (ey z hz)) (fun z hz j hj => ?_) (fun e he h6 => h5 e he (by rw [put_objs] at h6; exact h6)) K hK⟩, fun j hj => ?_, hcl⟩, ⟨u, ?_, ?_, (labQ_eq ex).symm⟩⟩
  · rw [put_objs]; exact h4 z hz j (by rw [ey z hz]; exact hj)
  · rcases hl j hj with ⟨z, hz, hj⟩ | h
    · exact .inl ⟨z, hz, by rw [ey z hz]; exact hj⟩
    · exact .inr h
  · exact put_act ha.ne fun j hj hi => hdis j (l1 j hi) (ok.kl j hj)
  · refine insV_lift (ev := s.ev) (ob := s.objs) (fun t b hg => ?_) (fun H k hk' => valP_ev hx ex ?_) hu
    · show (s.act Kl U y.d v).env t = s.env t
      rw [act_ne fun e => ha.yx t e (guard_rd hg)]
      rcases insV_guard (hu (fun _ => True) trivial) t b hg with ⟨b', hb⟩ | hb
      · have : s.env t = .c (.b b') := hb
        rw [this]; exact kills_free fun j _ hj => by cases hj
      · have : s.env t = .und := hb
        rw [this]; exact kills_free fun j _ hj => by cases hj
    · refine valP_ob hx hcall (v := u) (fun z hz i hi => ?_) H k hk'
      rw [act_objs, actO_free ok.kl ok.up (hdis i (l2 z hz i hi))]
      exact ObRel.kills fun j hj hi => hdis j (l1 j hi) (ok.kl j hj)

theorem swapEQ (hy : y.op.reads.isSome = true) (hcall : y.op.isCall = false) (ha : Apart x y) (hdis : ∀ j, j ∈ lx.1 → j ∉ ly.1) (hcly : ly.2 = true) (h1 : TrE P x lx s s1) (h2 : TrQ P y ly s1 s2) : ∃ s1', TrQ P y ly s s1' ∧ TrE P x lx s1' s2 := by
  obtain ⟨Kl, U, v, rfl, ok, hl, hcl⟩ := h1
  obtain ⟨u, rfl, hu, rfl⟩ := h2
  obtain ⟨l1, l2⟩ := labQ_ids (i := y) (s := s.act Kl U x.d v) (v := u)
  obtain ⟨c1, c2⟩ := labQ_cl hcly
  have ey : ∀ z, z ∈ y.op.xs → s.ev z = (s.act Kl U x.d v).ev z := by
    intro z hz
    cases z with
    | t n =>
      show s.env n = (s.act Kl U x.d v).env n
      have hn : x.d ≠ some n := fun e => ha.xy n e (List.mem_append_right _ (List.mem_flatMap.2 ⟨_, hz, by simp [X.tm]⟩))
      have hc : ((s.act Kl U x.d v).env n).cl = true := c2 _ hz
      rw [act_ne hn] at hc ⊢
      exact (kills_clean hc).symm
    | k a => rfl
  have ex := evs_of (i := x) (s := s) (s2 := s.put y.d u) fun t ht => ha.put_yx t ht
  refine ⟨s.put y.d u, ⟨u, rfl, ?_, (labQ_eq ey).symm⟩, ⟨Kl, U, v, ?_, ⟨ok.kl, ok.up, fun s3 h3 h4 h5 K hK => ok.again s3 (fun z hz => (h3 z hz).trans (ex z hz)) (fun z hz j hj => ?_) (fun e he h6 => h5 e he (by rw [put_objs]; exact h6)) K hK⟩, fun j hj => ?_, hcl⟩⟩
  · refine insV_lift (fun t b hg => ?_) (fun H k hk' => valP_ev hy ey ?_) hu
    · show s.env t = (s.act Kl U x.d v).env t
      have hn : x.d ≠ some t := fun e => ha.xy t e (guard_rd hg)
      have hc : ((s.act Kl U x.d v).env t).cl = true := by
        rcases insV_guard (hu (fun _ => True) trivial) t b hg with ⟨b', hb⟩ | hb
        · have : (s.act Kl U x.d v).env t = .c (.b b') := hb
          rw [this]; rfl
        · have : (s.act Kl U x.d v).env t = .und := hb
          rw [this]; rfl
      rw [act_ne hn] at hc ⊢
      exact (kills_clean hc).symm
    · refine valP_ob hy hcall (v := u) (fun z hz i hi => ?_) H k hk'
      rw [act_objs, actO_free ok.kl ok.up fun h => hdis i h (l2 z hz i hi)]
      exact ObRel.unkill c1
  · exact (put_act (fun t h h' => ha.ne t h' h) fun j hj hi => hdis j (ok.kl j hj) (l1 j hi)).symm
  · have := h4 z hz j (by rw [ex z hz]; exact hj)
    rw [put_objs] at this; exact this
  · rcases hl j hj with ⟨z, hz, hj⟩ | h
    · exact .inl ⟨z, hz, by rw [ex z hz]; exact hj⟩
    · exact .inr h

theorem new_act_comm {s : St} {e : Nat} {o : Obj} {u v : AV} {d : Option Nat} {Kl : List Nat} {U : List (Nat × Obj)} (hne : d ≠ some e) (hu : ∀ j, j ∈ u.ids → j = e) (hb : o.bare) (h1 : e ∉ Kl) (h2 : ∀ p, p ∈ U → p.1 ≠ e) :
    (⟨upd e u s.env, upd e o s.objs⟩ : St).act Kl U d v = ⟨upd e u (s.act Kl U d v).env, upd e o (s.act Kl U d v).objs⟩ := by
  refine St.ext' (fun t => ?_) fun i => ?_
  · by_cases h : t = e
    · subst h; rw [act_ne hne, new_eq, new_eq, kills_free fun j hj hi => h1 (hu j hi ▸ hj)]
    · rw [new_ne h]
      by_cases h3 : d = some t
      · rw [act_eq h3, act_eq h3]
      · rw [act_ne h3, act_ne h3, new_ne h]
  · rw [act_objs]
    by_cases h : i = e
    · subst h; rw [new_oeq, new_oeq, actO_not h1 h2, okills_bare hb]
    · rw [new_one h, new_one h, act_objs]

theorem swapME (hs : Sound s) (hk : y.op.xs.all X.kok = true) (ha : Apart x y) (h1 : TrM P x lx s s1) (h2 : TrE P y ly s1 s2) : ∃ s1', TrE P y ly s s1' ∧ TrM P x lx s1' s2 := by
  obtain ⟨e, o, u, hd, h0, rfl, hb, hu, hxs, rfl, ag⟩ := h1
  obtain ⟨Kl, U, v, rfl, ok, hl, hcl⟩ := h2
  have ey := evs_of (i := y) (s := ⟨upd e u s.env, upd e o s.objs⟩) (s2 := s) fun t ht => (new_ne fun (h : t = e) => ha.xy e hd (h ▸ ht)).symm
  have hc := hs e h0
  have hne : y.d ≠ some e := ha.ne e hd
  have hfr : ∀ z, z ∈ y.op.xs → e ∉ (s.ev z).ids := fun z hz => ids_ev hc (List.all_eq_true.1 hk z hz)
  have hel : e ∉ ly.1 := by
    intro h
    rcases hl e h with ⟨z, hz, hj⟩ | h
    · exact hfr z hz (by rw [ey z hz]; exact hj)
    · exact hne h
  have hKl : e ∉ Kl := fun h => hel (ok.kl e h)
  have hU : ∀ p, p ∈ U → p.1 ≠ e := fun p hp h => hel (h ▸ ok.up p hp)
  have ex : ∀ z, z ∈ x.op.xs → (s.act Kl U y.d v).ev z = s.ev z := by
    intro z hz
    cases z with
    | t n =>
      show (s.act Kl U y.d v).env n = s.env n
      rw [act_ne fun e => ha.yx n e (List.mem_append_right _ (List.mem_flatMap.2 ⟨_, hz, by simp [X.tm]⟩))]
      have := (hxs _ hz).1
      exact kills_free fun j _ hj => by rw [show (s.env n).ids = [] from this] at hj; cases hj
    | k a => rfl
  refine ⟨s.act Kl U y.d v, ⟨Kl, U, v, rfl, ⟨ok.kl, ok.up, fun s3 h3 h4 h5 K hK => ok.again s3 (fun z hz => (h3 z hz).trans (ey z hz)) (fun z hz j hj => ?_) (fun f hf h6 => ?_) K hK⟩, fun j hj => ?_, hcl⟩,
    ⟨e, o, u, hd, ?_, new_act_comm hne hu hb hKl hU, hb, hu, fun z hz => by rw [ex z hz]; exact hxs z hz, rfl, fun s3 h3 h4 K hK => ag s3 (fun z hz => (h3 z hz).trans (ex z hz)) h4 K hK⟩⟩
  · rw [← ey z hz] at hj
    rw [new_one fun (h : j = e) => hfr z hz (h ▸ hj)]
    exact h4 z hz j hj
  · have hfe : f ≠ e := fun h => hne (h ▸ hf)
    rw [new_one hfe] at h6
    exact h5 f hf h6
  · rcases hl j hj with ⟨z, hz, hj⟩ | h
    · exact .inl ⟨z, hz, by rw [ey z hz]; exact hj⟩
    · exact .inr h
  · rw [act_objs, h0, actO_not hKl hU, Obj.none_kills]

theorem swapEM (hs : Sound s) (hk : x.op.xs.all X.kok = true) (ha : Apart x y) (hdis : ∀ j, j ∈ lx.1 → j ∉ ly.1) (h1 : TrE P x lx s s1) (h2 : TrM P y ly s1 s2) : ∃ s1', TrM P y ly s s1' ∧ TrE P x lx s1' s2 := by
  obtain ⟨Kl, U, v, rfl, ok, hl, hcl⟩ := h1
  obtain ⟨e, o, u, hd, h0, rfl, hb, hu, hxs, rfl, ag⟩ := h2
  have hel : e ∉ lx.1 := fun h => hdis e h (by simp [labM, hd])
  have hKl : e ∉ Kl := fun h => hel (ok.kl e h)
  have hU : ∀ p, p ∈ U → p.1 ≠ e := fun p hp h => hel (h ▸ ok.up p hp)
  rw [act_objs, actO_not hKl hU] at h0
  have h0' : s.objs e = .none := by
    cases ho : s.objs e with
    | none => rfl
    | _ => exact absurd h0 ((Obj.kills_none _ _).2 (by rw [ho]; simp))
  have hc := hs e h0'
  have hne : x.d ≠ some e := fun h => ha.ne e h hd
  have hfr : ∀ z, z ∈ x.op.xs → e ∉ (s.ev z).ids := fun z hz => ids_ev hc (List.all_eq_true.1 hk z hz)
  have ey : ∀ z, z ∈ y.op.xs → s.ev z = (s.act Kl U x.d v).ev z := by
    intro z hz
    cases z with
    | t n =>
      show s.env n = (s.act Kl U x.d v).env n
      have hn : x.d ≠ some n := fun e => ha.xy n e (List.mem_append_right _ (List.mem_flatMap.2 ⟨_, hz, by simp [X.tm]⟩))
      have hc : ((s.act Kl U x.d v).env n).cl = true := (hxs _ hz).2
      rw [act_ne hn] at hc ⊢
      exact (kills_clean hc).symm
    | k a => rfl
  have ex := evs_of (i := x) (s := s) (s2 := ⟨upd e u s.env, upd e o s.objs⟩) fun t ht => new_ne fun h => ha.yx e hd (h ▸ ht)
  refine ⟨⟨upd e u s.env, upd e o s.objs⟩, ⟨e, o, u, hd, h0', rfl, hb, hu, fun z hz => by rw [ey z hz]; exact hxs z hz, rfl, fun s3 h3 h4 K hK => ag s3 (fun z hz => (h3 z hz).trans (ey z hz)) h4 K hK⟩,
    ⟨Kl, U, v, (new_act_comm hne hu hb hKl hU).symm, ⟨ok.kl, ok.up, fun s3 h3 h4 h5 K hK => ok.again s3 (fun z hz => (h3 z hz).trans (ex z hz)) (fun z hz j hj => ?_) (fun f hf h6 => ?_) K hK⟩, fun j hj => ?_, hcl⟩⟩
  · have := h4 z hz j (by rw [ex z hz]; exact hj)
    rw [new_one fun (h : j = e) => hfr z hz (h ▸ hj)] at this
    exact this
  · have hfe : f ≠ e := fun h => hne (h ▸ hf)
    exact h5 f hf (by rw [new_one hfe]; exact h6)
  · rcases hl j hj with ⟨z, hz, hj⟩ | h
    · exact .inl ⟨z, hz, by rw [ex z hz]; exact hj⟩
    · exact .inr h
end

end Go.Proofs.Ytenfgllkjgfjpaa
