/- The abstract machine, part F: an instruction as a step from a state to a state. -/
import Derived.Test.YtenfgllkjgfjpaaMCoreE
set_option linter.all false
namespace Go.Proofs.Ytenfgllkjgfjpaa
open Go.RowKit

def labQ (i : Ins) (s : St) (v : AV) : Lab := ((v :: i.op.xs.map s.ev).flatMap AV.ids, (v :: i.op.xs.map s.ev).all AV.cl)
def labM (i : Ins) : Lab := (i.d.toList, true)
def trAt (s : St) : AV → Bool
  | .row id _ _ _ => (s.ob id).tree
  | _ => false
def wOf (op : IOp) (s : St) : List Nat :=
  match op with
  | .st1 x v | .stn _ x v => (s.ev x).ids ++ (if trAt s (s.ev x) then (s.ev v).ids else [])
  | .app k _ x y => (s.ev x).ids ++ (match srcRows s k (s.ev y) with | some _ => [] | none => (s.ev y).ids)
  | .cp _ x _ => (s.ev x).ids
  | _ => []
def labE (i : Ins) (s : St) : Lab := (wOf i.op s ++ i.d.toList, true)

def bslF (k : Nat) (xs : List AV) (s : St) (d : Option Nat) (K : St → Prop) : Prop :=
  match AV.rowsOf xs with
  | some rows => (∀ r ∈ rows, r.length = k) ∧ newP s d (.row k rows) (fun d => .own d k rows.length) K
  | none => False
def stepF (P : Program) (d : Option Nat) (op : IOp) (s : St) (K : St → Prop) : Prop :=
  match op with
  | .bsl k xs => bslF k (xs.map s.ev) s d K
  | op => stepI P d op s K

section
variable {P : Program} {s : St} {K : St → Prop}

theorem stepI_of_F {op : IOp} {d : Option Nat} (h : stepF P d op s K) : stepI P d op s K := by
  cases op
  case bsl k xs =>
    simp only [stepF, bslF] at h
    simp only [stepI, bslP]
    cases hr : AV.rowsOf (xs.map s.ev) <;> rw [hr] at h
    · exact h.elim
    · exact h
  all_goals exact h

theorem toC_bare {x : AV} {c : C} (h : x.toC = some c) : x.ids0 = [] ∧ x.cl1 = true := by
  cases x <;> first | exact ⟨rfl, rfl⟩ | cases h
theorem toCs_bare : ∀ {l : List AV} {cs : List C}, AV.toCs l = some cs → ∀ x, x ∈ l → ∃ c, x.toC = some c
  | [], _, _, x, hx => by cases hx
  | y :: l, cs, h, x, hx => by
    simp only [AV.toCs] at h
    split at h
    · rename_i c1 cs1 h1 h2
      rcases List.mem_cons.1 hx with rfl | hx
      · exact ⟨_, h1⟩
      · exact toCs_bare h2 x hx
    · cases h
theorem toC_bare' {x : AV} {c : C} (h : x.toC = some c) : x.ids = [] ∧ x.cl = true := by
  cases x <;> first | exact ⟨rfl, rfl⟩ | cases h
theorem rowOf_bare {x : AV} {r : List C} (h : x.rowOf = some r) : x.ids = [] ∧ x.cl = true := by
  unfold AV.rowOf at h
  cases x
  case agg l =>
    have hb := toCs_bare h
    refine ⟨?_, ?_⟩
    · show l.flatMap AV.ids1 = []
      rw [List.flatMap_eq_nil_iff]
      intro y hy
      obtain ⟨c, hc⟩ := hb y hy
      cases y <;> first | rfl | cases hc
    · exact List.all_eq_true.2 fun y hy => let ⟨c, hc⟩ := hb y hy; (toC_bare hc).2
  all_goals
    obtain ⟨c, hc⟩ := toCs_bare h _ (List.mem_singleton.2 rfl)
    exact toC_bare' hc
theorem rowsOf_bare : ∀ {l : List AV} {rows : List (List C)}, AV.rowsOf l = some rows → ∀ x, x ∈ l → x.ids = [] ∧ x.cl = true
  | [], _, _, x, hx => by cases hx
  | y :: l, cs, h, x, hx => by
    simp only [AV.rowsOf] at h
    split at h
    · rename_i c1 cs1 h1 h2
      rcases List.mem_cons.1 hx with rfl | hx
      · exact rowOf_bare h1
      · exact rowsOf_bare h2 x hx
    · cases h

theorem newP_form {d : Option Nat} {o : Obj} {v : Nat → AV} (h : newP s d o v K) : ∃ e, d = some e ∧ s.objs e = .none ∧ K ⟨upd e (v e) s.env, upd e o s.objs⟩ := by
  unfold newP at h
  split at h
  · obtain ⟨h1, h2⟩ := h
    exact ⟨_, rfl, ob_none h1, h2⟩
  · exact h.elim
theorem newP_of {e : Nat} {o : Obj} {v : Nat → AV} (h0 : s.objs e = .none) (h : K ⟨upd e (v e) s.env, upd e o s.objs⟩) : newP s (some e) o v K :=
  ⟨by show (s.objs e).isNone = true; rw [h0]; rfl, h⟩

/-- An instruction that makes an object. -/
theorem mk_form {op : IOp} (ho : op.isMk = true) {d : Option Nat} (h : stepF P d op s K) : ∃ e o v, d = some e ∧ s.objs e = .none ∧ K ⟨upd e v s.env, upd e o s.objs⟩ ∧ o.bare ∧ (∀ j, j ∈ v.ids → j = e) ∧
    (∀ x, x ∈ op.xs → (s.ev x).ids = [] ∧ (s.ev x).cl = true) ∧ ∀ s2 : St, (∀ x, x ∈ op.xs → s2.ev x = s.ev x) → s2.objs e = .none → ∀ K2 : St → Prop, K2 ⟨upd e v s2.env, upd e o s2.objs⟩ → stepF P d op s2 K2 := by
  cases op <;> first | cases ho | skip
  case alloc zs =>
    obtain ⟨e, rfl, h0, hK⟩ := newP_form h
    refine ⟨e, _, _, rfl, h0, hK, ?_, ?_, fun x hx => (by cases hx), fun s2 _ h2 K2 hK2 => (show newP s2 (some e) (.box zs) (fun d => .box d 0) K2 from newP_of h2 hK2)⟩
    · intro x hx
      have h1 : x.ids = [] := by
        have : zs.all (fun z => z.ids.isEmpty) = true := ho
        have := List.all_eq_true.1 this x hx
        simpa using this
      rw [List.eq_nil_iff_forall_not_mem]
      intro i hi
      have := ids1_ids hi
      rw [h1] at this
      cases this
    · intro j hj; simpa [AV.ids, AV.ids2, AV.ids1, AV.ids0] using hj
  case alloca k n z =>
    obtain ⟨e, rfl, h0, hK⟩ := newP_form h
    exact ⟨e, _, _, rfl, h0, hK, trivial, fun j hj => by simpa [AV.ids, AV.ids2, AV.ids1, AV.ids0] using hj, fun x hx => (by cases hx), fun s2 _ h2 K2 hK2 => (show newP s2 (some e) (.row k (List.replicate n z)) (fun d => .row d k 0 0) K2 from newP_of h2 hK2)⟩
  case mks k b z l c =>
    simp only [stepF, stepI] at h
    have h' := h
    revert h'
    generalize hl : s.ev l = vl; generalize hc : s.ev c = vc
    intro h'
    unfold mksP at h'
    split at h'
    · rename_i n m
      obtain ⟨h1, h2, h3, h4⟩ := h'
      obtain ⟨e, rfl, h0, hK⟩ := newP_form h4
      refine ⟨e, _, _, rfl, h0, hK, trivial, fun j hj => by simpa [AV.ids, AV.ids2, AV.ids1, AV.ids0] using hj, ?_, fun s2 hx h5 K2 hK2 => ?_⟩
      · intro x hx
        simp only [IOp.xs, List.mem_cons, List.not_mem_nil, or_false] at hx
        rcases hx with rfl | rfl
        · rw [hl]; exact ⟨rfl, rfl⟩
        · rw [hc]; exact ⟨rfl, rfl⟩
      · simp only [stepF, stepI]
        rw [hx l (by simp [IOp.xs]), hx c (by simp [IOp.xs]), hl, hc]
        exact ⟨h1, h2, h3, newP_of h5 hK2⟩
    · exact h'.elim
  case bsl k xs =>
    simp only [stepF, bslF] at h
    cases hr : AV.rowsOf (xs.map s.ev) <;> rw [hr] at h
    · exact h.elim
    · rename_i rows
      obtain ⟨h1, h2⟩ := h
      obtain ⟨e, rfl, h0, hK⟩ := newP_form h2
      refine ⟨e, _, _, rfl, h0, hK, trivial, fun j hj => by simpa [AV.ids, AV.ids2, AV.ids1, AV.ids0] using hj, fun x hx => rowsOf_bare hr _ (List.mem_map_of_mem hx), fun s2 hx h5 K2 hK2 => ?_⟩
      simp only [stepF, bslF]
      rw [List.map_congr_left (l := xs) hx, hr]
      exact ⟨h1, newP_of h5 hK2⟩

theorem setOb_act {id : Nat} {o : Obj} {v : AV} {d : Option Nat} : (s.setOb id o).put d v = s.act [] [(id, o)] d v := by
  unfold St.act
  congr 1
  refine St.ext' (fun t => rfl) fun i => ?_
  show upd id o s.objs i = actO _ _ _ i
  unfold actO
  rw [upd_apply]
  by_cases e : i = id
  · subst e; simp
  · have e2 : ¬ id = i := fun h => e h.symm
    simp [e, e2, Obj.kills]
theorem drops_setOb_act {ids : List Nat} {id : Nat} {o : Obj} {v : AV} {d : Option Nat} : ((s.drops ids).setOb id o).put d v = s.act ids [(id, o)] d v := by
  unfold St.act
  congr 1
  refine St.ext' (fun t => St.drops_env ids s t) fun i => ?_
  show upd id o (s.drops ids).objs i = actO _ _ _ i
  unfold actO
  rw [upd_apply, St.drops_objs]
  by_cases e : i = id
  · subst e; simp
  · have e2 : ¬ id = i := fun h => e h.symm
    simp [e, e2]
theorem renew_act {id : Nat} {o : Obj} {v : AV} {d : Option Nat} : (s.renew id o).put d v = s.act [id] [(id, o)] d v := by
  unfold St.act
  congr 1
  refine St.ext' (fun t => rfl) fun i => ?_
  show upd id o (fun i => (s.objs i).kill id) i = actO _ _ _ i
  unfold actO
  rw [upd_apply]
  by_cases e : i = id
  · subst e; simp
  · have e2 : ¬ id = i := fun h => e h.symm
    simp [e, e2, Obj.kills]
theorem new_act {e : Nat} {o : Obj} {v : AV} : (⟨upd e v s.env, upd e o s.objs⟩ : St) = s.act [] [(e, o)] (some e) v := by
  rw [← setOb_act]; rfl
theorem drop_new_act {e id : Nat} {o : Obj} {v : AV} : (⟨upd e v (s.drop id).env, upd e o (s.drop id).objs⟩ : St) = s.act [id] [(e, o)] (some e) v := by
  have := drops_setOb_act (s := s) (ids := [id]) (id := e) (o := o) (v := v) (d := some e)
  rw [← this]; rfl
theorem drop_renew_act {id idy : Nat} {o : Obj} {v : AV} {d : Option Nat} : ((s.drop idy).renew id o).put d v = s.act [idy, id] [(id, o)] d v := by
  unfold St.act
  congr 1
  refine St.ext' (fun t => rfl) fun i => ?_
  show upd id o (fun i => ((s.drop idy).objs i).kill id) i = actO _ _ _ i
  unfold actO
  rw [upd_apply]
  by_cases e : i = id
  · subst e; simp
  · have e2 : ¬ id = i := fun h => e h.symm
    rw [if_neg e]
    simp only [List.find?_cons, List.find?_nil, beq_eq_false_iff_ne.2 e2]
    show (upd idy .none (fun i => (s.objs i).kill idy) i).kill id = _
    rw [upd_apply]
    by_cases e3 : i = idy
    · simp [e3, Obj.kill]
    · simp [e3, e, Obj.kills]
theorem set_renew_act {id e : Nat} {o o' : Obj} (ho : ∀ i, o.kill i = o) {v : AV} {d : Option Nat} : ((s.setOb id o).renew e o').put d v = s.act [e] [(e, o'), (id, o)] d v := by
  unfold St.act
  congr 1
  refine St.ext' (fun t => rfl) fun i => ?_
  show upd e o' (fun i => (upd id o s.objs i).kill e) i = actO _ _ _ i
  unfold actO
  rw [upd_apply]
  by_cases h1 : i = e
  · subst h1; simp
  · have h2 : ¬ e = i := fun h => h1 h.symm
    rw [if_neg h1]
    simp only [List.find?_cons, List.find?_nil, beq_eq_false_iff_ne.2 h2]
    rw [upd_apply]
    by_cases h3 : i = id
    · subst h3; simp [ho]
    · have h4 : ¬ id = i := fun h => h3 h.symm
      simp [h1, h3, beq_eq_false_iff_ne.2 h4, Obj.kills]

theorem pk1_eq {s s2 : St} {x : AV} (h : ∀ i, i ∈ x.ids0 → s2.objs i = s.objs i) : pk1 s2 x = pk1 s x := by
  cases x <;> first | rfl | skip
  rename_i id k n
  have : s2.ob id = s.ob id := h id (by simp [AV.ids0])
  simp only [pk1, this]
theorem pkl_eq {s s2 : St} : ∀ {l : List AV}, (∀ x, x ∈ l → ∀ i, i ∈ x.ids0 → s2.objs i = s.objs i) → pkl s2 l = pkl s l
  | [], _ => rfl
  | x :: l, h => by
    simp only [pkl]
    rw [pk1_eq (h x (by simp)), pkl_eq fun y hy => h y (by simp [hy])]
theorem pk1_ids {x : AV} {c : C} {l : List Nat} (h : pk1 s x = some (c, l)) : ∀ i, i ∈ l → i ∈ x.ids0 := by
  unfold pk1 at h
  split at h <;> first
    | (cases h; intro i hi; cases hi)
    | (split at h <;> first
        | (cases h; intro i hi; cases hi)
        | (split at h <;> cases h; intro i hi; exact hi)
        | cases h)
    | cases h
theorem pkl_ids : ∀ {l : List AV} {cs : List C} {ids : List Nat}, pkl s l = some (cs, ids) → ∀ i, i ∈ ids → ∃ x, x ∈ l ∧ i ∈ x.ids0
  | [], _, _, h, i, hi => by cases h; cases hi
  | x :: l, cs, ids, h, i, hi => by
    simp only [pkl] at h
    split at h
    · rename_i c a cs' as h1 h2
      cases h
      rcases List.mem_append.1 hi with hi | hi
      · exact ⟨x, by simp, pk1_ids h1 i hi⟩
      · obtain ⟨y, hy, h3⟩ := pkl_ids h2 i hi
        exact ⟨y, by simp [hy], h3⟩
    · cases h
theorem src_eq {s s2 : St} {k : Nat} {x : AV} (h : ∀ i, i ∈ x.ids → s2.objs i = s.objs i) : srcRows s2 k x = srcRows s k x ∧ srcTr s2 k x = srcTr s k x := by
  cases x <;> first | exact ⟨rfl, rfl⟩ | (rename_i c; cases c <;> exact ⟨rfl, rfl⟩) | skip
  · rename_i id k' n
    have : s2.ob id = s.ob id := h id (by simp [AV.ids, AV.ids2, AV.ids1, AV.ids0])
    simp only [srcRows, srcTr, this, and_self]
  · rename_i id k' lo n
    have : s2.ob id = s.ob id := h id (by simp [AV.ids, AV.ids2, AV.ids1, AV.ids0])
    simp only [srcRows, srcTr, this, and_self]
theorem srcTr_ids {k idy : Nat} {x : AV} {new : List (List C)} (h : srcTr s k x = some (idy, new)) : idy ∈ x.ids := by
  unfold srcTr at h
  split at h
  · split at h
    · split at h
      · cases h; simp [AV.ids, AV.ids2, AV.ids1, AV.ids0]
      · cases h
    · cases h
  · cases h
end

/-- What a changing step is. -/
structure EffOk (P : Program) (op : IOp) (d : Option Nat) (s : St) (W : List Nat) (Kl : List Nat) (U : List (Nat × Obj)) (v : AV) : Prop where
  kl : ∀ j, j ∈ Kl → j ∈ W
  up : ∀ p, p ∈ U → p.1 ∈ W
  again : ∀ s2 : St, (∀ x, x ∈ op.xs → s2.ev x = s.ev x) → (∀ x, x ∈ op.xs → ∀ j, j ∈ (s.ev x).ids → s2.objs j = s.objs j) → (∀ e, d = some e → s.objs e = .none → s2.objs e = .none) → ∀ K2 : St → Prop, K2 (s2.act Kl U d v) → stepI P d op s2 K2

section
variable {P : Program} {s : St} {K : St → Prop}
theorem st1_form {x v : X} {d : Option Nat} (h : stepI P d (.st1 x v) s K) : ∃ Kl U u, K (s.act Kl U d u) ∧ EffOk P (.st1 x v) d s (wOf (.st1 x v) s ++ d.toList) Kl U u := by
  simp only [stepI] at h
  have again : ∀ {Kl U u}, (∀ s2 : St, (∀ j, j ∈ (s.ev x).ids → s2.ob j = s.ob j) → (∀ j, j ∈ (s.ev v).ids → s2.objs j = s.objs j) → ∀ K2 : St → Prop, K2 (s2.act Kl U d u) → st1P s2 (s.ev x) (s.ev v) fun s' => K2 (s'.put d .und)) →
      ∀ s2 : St, (∀ y, y ∈ (IOp.st1 x v).xs → s2.ev y = s.ev y) → (∀ y, y ∈ (IOp.st1 x v).xs → ∀ j, j ∈ (s.ev y).ids → s2.objs j = s.objs j) → (∀ e, d = some e → s.objs e = .none → s2.objs e = .none) → ∀ K2 : St → Prop, K2 (s2.act Kl U d u) → stepI P d (.st1 x v) s2 K2 := by
    intro Kl U u hh s2 hx hob _ K2 hK2
    simp only [stepI]
    rw [hx x (by simp [IOp.xs]), hx v (by simp [IOp.xs])]
    exact hh s2 (fun j hj => hob x (by simp [IOp.xs]) j hj) (fun j hj => hob v (by simp [IOp.xs]) j hj) K2 hK2
  have hw : ∀ j, j ∈ (s.ev x).ids → j ∈ wOf (.st1 x v) s ++ d.toList := fun j hj => by simp [wOf, hj]
  revert h again hw
  generalize hx : s.ev x = a; generalize hv : s.ev v = b
  intro h again hw
  unfold st1P at h
  split at h
  · rename_i id o
    cases ho : s.ob id <;> rw [ho] at h <;> first | exact h.elim | skip
    rename_i cells
    obtain ⟨h1, h2, h3⟩ := h
    rw [setOb_act] at h3
    refine ⟨_, _, _, h3, fun j hj => (by cases hj), fun p hp => ?_, again fun s2 e1 _ K2 hK2 => ?_⟩
    · simp only [List.mem_singleton] at hp; subst hp; exact hw id (by simp [AV.ids, AV.ids2, AV.ids1, AV.ids0])
    · unfold st1P
      simp only
      rw [e1 id (by simp [AV.ids, AV.ids2, AV.ids1, AV.ids0]), ho]
      exact ⟨h1, h2, by rw [setOb_act]; exact hK2⟩
  · rename_i id k i o
    cases ho : s.ob id <;> rw [ho] at h <;> first | exact h.elim | skip
    · rename_i k' rows
      cases hc : b.toC <;> rw [hc] at h <;> first | exact h.elim | skip
      rename_i c
      obtain ⟨h1, h2, h3, h4⟩ := h
      rw [setOb_act] at h4
      refine ⟨_, _, _, h4, fun j hj => (by cases hj), fun p hp => ?_, again fun s2 e1 _ K2 hK2 => ?_⟩
      · simp only [List.mem_singleton] at hp; subst hp; exact hw id (by simp [AV.ids, AV.ids2, AV.ids1, AV.ids0])
      · unfold st1P
        simp only
        rw [e1 id (by simp [AV.ids, AV.ids2, AV.ids1, AV.ids0]), ho]
        simp only [hc]
        exact ⟨h1, h2, h3, by rw [setOb_act]; exact hK2⟩
    · rename_i k' ver rows
      cases hp : pk1 s b <;> rw [hp] at h <;> first | exact h.elim | skip
      rename_i q
      obtain ⟨c, ids⟩ := q
      obtain ⟨h1, h2, h3, h4, h5, h6⟩ := h
      rw [drops_setOb_act] at h6
      have htr : trAt s (s.ev x) = true := by rw [hx]; simp [trAt, ho, Obj.tree]
      refine ⟨_, _, _, h6, fun j hj => ?_, fun p hp => ?_, again fun s2 e1 e2 K2 hK2 => ?_⟩
      · have := pk1_ids hp j hj
        simp [wOf, htr, hv, ids1_ids (ids0_ids1 this)]
      · simp only [List.mem_singleton] at hp; subst hp; exact hw id (by simp [AV.ids, AV.ids2, AV.ids1, AV.ids0])
      · unfold st1P
        simp only
        rw [e1 id (by simp [AV.ids, AV.ids2, AV.ids1, AV.ids0]), ho]
        simp only
        rw [pk1_eq (s := s) fun i hi => e2 i (ids1_ids (ids0_ids1 hi)), hp]
        exact ⟨h1, h2, h3, h4, h5, by rw [drops_setOb_act]; exact hK2⟩
  · rename_i id ver i j k i' o
    cases ho : s.ob id <;> rw [ho] at h <;> first | exact h.elim | skip
    rename_i k0 ver' rows
    obtain ⟨h0, h⟩ := h
    split at h
    · rename_i k' rs hcell
      cases hc : b.toC <;> rw [hc] at h <;> first | exact h.elim | skip
      rename_i c
      obtain ⟨h1, h2, h3, h4⟩ := h
      rw [setOb_act] at h4
      refine ⟨_, _, _, h4, fun j hj => (by cases hj), fun p hp => ?_, again fun s2 e1 _ K2 hK2 => ?_⟩
      · simp only [List.mem_singleton] at hp; subst hp; exact hw id (by simp [AV.ids, AV.ids2, AV.ids1, AV.ids0])
      · unfold st1P
        simp only
        rw [e1 id (by simp [AV.ids, AV.ids2, AV.ids1, AV.ids0]), ho]
        simp only [hcell, hc]
        exact ⟨h0, h1, h2, h3, by rw [setOb_act]; exact hK2⟩
    · exact h.elim
  · exact h.elim

theorem stn_form {n : Nat} {x v : X} {d : Option Nat} (h : stepI P d (.stn n x v) s K) : ∃ Kl U u, K (s.act Kl U d u) ∧ EffOk P (.stn n x v) d s (wOf (.stn n x v) s ++ d.toList) Kl U u := by
  simp only [stepI] at h
  have again : ∀ {Kl U u}, (∀ s2 : St, (∀ j, j ∈ (s.ev x).ids → s2.ob j = s.ob j) → (∀ j, j ∈ (s.ev v).ids → s2.objs j = s.objs j) → ∀ K2 : St → Prop, K2 (s2.act Kl U d u) → stnP n s2 (s.ev x) (s.ev v) fun s' => K2 (s'.put d .und)) →
      ∀ s2 : St, (∀ y, y ∈ (IOp.stn n x v).xs → s2.ev y = s.ev y) → (∀ y, y ∈ (IOp.stn n x v).xs → ∀ j, j ∈ (s.ev y).ids → s2.objs j = s.objs j) → (∀ e, d = some e → s.objs e = .none → s2.objs e = .none) → ∀ K2 : St → Prop, K2 (s2.act Kl U d u) → stepI P d (.stn n x v) s2 K2 := by
    intro Kl U u hh s2 hx hob _ K2 hK2
    simp only [stepI]
    rw [hx x (by simp [IOp.xs]), hx v (by simp [IOp.xs])]
    exact hh s2 (fun j hj => hob x (by simp [IOp.xs]) j hj) (fun j hj => hob v (by simp [IOp.xs]) j hj) K2 hK2
  have hw : ∀ j, j ∈ (s.ev x).ids → j ∈ wOf (.stn n x v) s ++ d.toList := fun j hj => by simp [wOf, hj]
  revert h again hw
  generalize hx : s.ev x = a; generalize hv : s.ev v = b
  intro h again hw
  unfold stnP at h
  split at h
  · rename_i l
    obtain ⟨h0, h⟩ := h
    split at h
    · rename_i id o
      cases ho : s.ob id <;> rw [ho] at h <;> first | exact h.elim | skip
      rename_i cells
      obtain ⟨h1, h2, h3⟩ := h
      rw [setOb_act] at h3
      refine ⟨_, _, _, h3, fun j hj => (by cases hj), fun p hp => ?_, again fun s2 e1 _ K2 hK2 => ?_⟩
      · simp only [List.mem_singleton] at hp; subst hp; exact hw id (by simp [AV.ids, AV.ids2, AV.ids1, AV.ids0])
      · unfold stnP
        simp only
        rw [e1 id (by simp [AV.ids, AV.ids2, AV.ids1, AV.ids0]), ho]
        exact ⟨h0, h1, h2, by rw [setOb_act]; exact hK2⟩
    · rename_i id k i o
      cases ho : s.ob id <;> rw [ho] at h <;> first | exact h.elim | skip
      · rename_i k' rows
        simp only at h
        cases hc : AV.toCs l <;> rw [hc] at h <;> first | exact h.elim | skip
        rename_i cs
        obtain ⟨h1, h2, h3, h4⟩ := h
        rw [setOb_act] at h4
        refine ⟨_, _, _, h4, fun j hj => (by cases hj), fun p hp => ?_, again fun s2 e1 _ K2 hK2 => ?_⟩
        · simp only [List.mem_singleton] at hp; subst hp; exact hw id (by simp [AV.ids, AV.ids2, AV.ids1, AV.ids0])
        · unfold stnP
          simp only
          rw [e1 id (by simp [AV.ids, AV.ids2, AV.ids1, AV.ids0]), ho]
          simp only [hc]
          exact ⟨h0, h1, h2, h3, by rw [setOb_act]; exact hK2⟩
      · rename_i k' ver rows
        simp only at h
        cases hp : pkl s l <;> rw [hp] at h <;> first | exact h.elim | skip
        rename_i q
        obtain ⟨cs, ids⟩ := q
        obtain ⟨h1, h2, h3, h4, h5, h6⟩ := h
        rw [drops_setOb_act] at h6
        have htr : trAt s (s.ev x) = true := by rw [hx]; simp [trAt, ho, Obj.tree]
        have hin : ∀ y, y ∈ l → ∀ j, j ∈ y.ids0 → j ∈ (AV.agg l).ids := fun y hy j hj => List.mem_flatMap.2 ⟨y, hy, ids0_ids1 hj⟩
        refine ⟨_, _, _, h6, fun j hj => ?_, fun p hp => ?_, again fun s2 e1 e2 K2 hK2 => ?_⟩
        · obtain ⟨y, hy, hj'⟩ := pkl_ids hp j hj
          simp [wOf, htr, hv, hin y hy j hj']
        · simp only [List.mem_singleton] at hp; subst hp; exact hw id (by simp [AV.ids, AV.ids2, AV.ids1, AV.ids0])
        · unfold stnP
          simp only
          rw [e1 id (by simp [AV.ids, AV.ids2, AV.ids1, AV.ids0]), ho]
          simp only
          rw [pkl_eq (s := s) fun y hy i hi => e2 i (hin y hy i hi), hp]
          exact ⟨h0, h1, h2, h3, h4, h5, by rw [drops_setOb_act]; exact hK2⟩
    · exact h.elim
  · exact h.elim
theorem app_form {k b : Nat} {x v : X} {d : Option Nat} (h : stepI P d (.app k b x v) s K) : ∃ Kl U u, K (s.act Kl U d u) ∧ EffOk P (.app k b x v) d s (wOf (.app k b x v) s ++ d.toList) Kl U u := by
  simp only [stepI] at h
  have again : ∀ {Kl U u}, (∀ s2 : St, (∀ j, j ∈ (s.ev x).ids → s2.ob j = s.ob j) → (srcRows s2 k (s.ev v) = srcRows s k (s.ev v)) → (srcTr s2 k (s.ev v) = srcTr s k (s.ev v)) → (∀ e, d = some e → s.objs e = .none → s2.objs e = .none) → ∀ K2 : St → Prop, K2 (s2.act Kl U d u) → appP k b s2 d (s.ev x) (s.ev v) K2) →
      ∀ s2 : St, (∀ y, y ∈ (IOp.app k b x v).xs → s2.ev y = s.ev y) → (∀ y, y ∈ (IOp.app k b x v).xs → ∀ j, j ∈ (s.ev y).ids → s2.objs j = s.objs j) → (∀ e, d = some e → s.objs e = .none → s2.objs e = .none) → ∀ K2 : St → Prop, K2 (s2.act Kl U d u) → stepI P d (.app k b x v) s2 K2 := by
    intro Kl U u hh s2 hx hob hn K2 hK2
    simp only [stepI]
    rw [hx x (by simp [IOp.xs]), hx v (by simp [IOp.xs])]
    have hs := src_eq (k := k) fun j hj => hob v (by simp [IOp.xs]) j hj
    exact hh s2 (fun j hj => hob x (by simp [IOp.xs]) j hj) hs.1 hs.2 hn K2 hK2
  have hw : ∀ j, j ∈ (s.ev x).ids → j ∈ wOf (.app k b x v) s ++ d.toList := fun j hj => by simp [wOf, hj]
  have hwv : ∀ j, srcRows s k (s.ev v) = none → j ∈ (s.ev v).ids → j ∈ wOf (.app k b x v) s ++ d.toList := fun j e hj => by simp [wOf, hj, e]
  have hwd : ∀ j, d = some j → j ∈ wOf (.app k b x v) s ++ d.toList := fun j e => by simp [e]
  have sid : ∀ {id k n}, id ∈ (AV.own id k n).ids := by intro id k n; simp [AV.ids, AV.ids2, AV.ids1, AV.ids0]
  revert h again hw hwv
  generalize hx : s.ev x = a; generalize hv : s.ev v = y
  intro h again hw hwv
  unfold appP at h
  split at h
  · rename_i new hnew
    split at h
    · obtain ⟨h1, h2⟩ := h
      obtain ⟨e, rfl, h0, hK⟩ := newP_form h2
      rw [new_act] at hK
      refine ⟨_, _, _, hK, fun j hj => (by cases hj), fun p hp => ?_, again fun s2 e1 e2 e3 hn K2 hK2 => ?_⟩
      · simp only [List.mem_singleton] at hp; subst hp; exact hwd _ rfl
      · unfold appP
        rw [e2, hnew]
        refine ⟨h1, newP_of (hn e rfl h0) ?_⟩
        rw [new_act]; exact hK2
    · rename_i k' rows
      obtain ⟨h1, h1', h1'', h2⟩ := h
      obtain ⟨e, rfl, h0, hK⟩ := newP_form h2
      rw [new_act] at hK
      refine ⟨_, _, _, hK, fun j hj => (by cases hj), fun p hp => ?_, again fun s2 e1 e2 e3 hn K2 hK2 => ?_⟩
      · simp only [List.mem_singleton] at hp; subst hp; exact hwd _ rfl
      · unfold appP
        rw [e2, hnew]
        refine ⟨h1, h1', h1'', newP_of (hn e rfl h0) ?_⟩
        rw [new_act]; exact hK2
    · rename_i id k' n
      cases ho : s.ob id <;> rw [ho] at h <;> first | exact h.elim | skip
      all_goals
        obtain ⟨h1, h2, h3, h4⟩ := h
        rw [renew_act] at h4
        refine ⟨_, _, _, h4, fun j hj => ?_, fun p hp => ?_, again fun s2 e1 e2 e3 hn K2 hK2 => ?_⟩
        · simp only [List.mem_singleton] at hj; subst hj; exact hw _ sid
        · simp only [List.mem_singleton] at hp; subst hp; exact hw _ sid
        · unfold appP
          rw [e2, hnew]
          simp only
          rw [e1 id sid, ho]
          exact ⟨h1, h2, h3, by rw [renew_act]; exact hK2⟩
    · rename_i id ver i j k' n
      have sid2 : id ∈ (AV.sub id ver i j k' n).ids := by simp [AV.ids, AV.ids2, AV.ids1, AV.ids0]
      cases ho : s.ob id <;> rw [ho] at h <;> first | exact h.elim | skip
      rename_i k0 ver' rows
      obtain ⟨h0, h⟩ := h
      split at h
      · rename_i k2 rs hcell
        obtain ⟨h1, h2, h3, h⟩ := h
        cases d with
        | none => exact h.elim
        | some e =>
          obtain ⟨h4, h5⟩ := h
          have h4' := ob_none h4
          rw [set_renew_act (fun _ => rfl)] at h5
          refine ⟨_, _, _, h5, fun q hq => ?_, fun p hp => ?_, again fun s2 e1 e2 e3 hn K2 hK2 => ?_⟩
          · simp only [List.mem_singleton] at hq; subst hq; exact hwd _ rfl
          · simp only [List.mem_cons, List.not_mem_nil, or_false] at hp
            rcases hp with rfl | rfl
            · exact hwd _ rfl
            · exact hw _ sid2
          · unfold appP
            rw [e2, hnew]
            simp only
            rw [e1 id sid2, ho]
            simp only [hcell]
            refine ⟨h0, h1, h2, h3, ?_, by rw [set_renew_act (fun _ => rfl)]; exact hK2⟩
            show (s2.objs e).isNone = true
            rw [hn e rfl h4']; rfl
      · rename_i k2 rs hcell
        obtain ⟨h1, h2, h3, h⟩ := h
        cases d with
        | none => exact h.elim
        | some e =>
          obtain ⟨h4, h5⟩ := h
          have h4' := ob_none h4
          rw [set_renew_act (fun _ => rfl)] at h5
          refine ⟨_, _, _, h5, fun q hq => ?_, fun p hp => ?_, again fun s2 e1 e2 e3 hn K2 hK2 => ?_⟩
          · simp only [List.mem_singleton] at hq; subst hq; exact hwd _ rfl
          · simp only [List.mem_cons, List.not_mem_nil, or_false] at hp
            rcases hp with rfl | rfl
            · exact hwd _ rfl
            · exact hw _ sid2
          · unfold appP
            rw [e2, hnew]
            simp only
            rw [e1 id sid2, ho]
            simp only [hcell]
            refine ⟨h0, h1, h2, h3, ?_, by rw [set_renew_act (fun _ => rfl)]; exact hK2⟩
            show (s2.objs e).isNone = true
            rw [hn e rfl h4']; rfl
      · exact h.elim
    · exact h.elim
  · rename_i hnone
    split at h
    · rename_i idy new hnew
      have hy : idy ∈ y.ids := srcTr_ids hnew
      split at h
      · obtain ⟨h1, h2⟩ := h
        obtain ⟨e, rfl, h0, hK⟩ := newP_form h2
        rw [drop_new_act] at hK
        refine ⟨_, _, _, hK, fun j hj => ?_, fun p hp => ?_, again fun s2 e1 e2 e3 hn K2 hK2 => ?_⟩
        · simp only [List.mem_singleton] at hj; subst hj; exact hwv _ hnone hy
        · simp only [List.mem_singleton] at hp; subst hp; exact hwd _ rfl
        · unfold appP
          rw [e2, hnone, e3, hnew]
          refine ⟨h1, newP_of ?_ ?_⟩
          · have h0' : upd idy Obj.none (fun i => (s.objs i).kill idy) e = .none := h0
            show upd idy Obj.none (fun i => (s2.objs i).kill idy) e = .none
            rw [upd_apply] at h0' ⊢
            split
            · rfl
            · rename_i hne
              rw [if_neg hne] at h0'
              have : s.objs e = .none := by
                cases hs : s.objs e with
                | none => rfl
                | _ => exact absurd h0' ((Obj.kill_none _ _).2 (by rw [hs]; simp))
              rw [hn e rfl this]; rfl
          · rw [drop_new_act]; exact hK2
      · rename_i id k' n
        obtain ⟨hne, h⟩ := h
        cases ho : s.ob id <;> rw [ho] at h <;> first | exact h.elim | skip
        all_goals
          obtain ⟨h1, h2, h3, h4⟩ := h
          rw [drop_renew_act] at h4
          refine ⟨_, _, _, h4, fun j hj => ?_, fun p hp => ?_, again fun s2 e1 e2 e3 hn K2 hK2 => ?_⟩
          · simp only [List.mem_cons, List.not_mem_nil, or_false] at hj
            rcases hj with rfl | rfl
            · exact hwv _ hnone hy
            · exact hw _ sid
          · simp only [List.mem_singleton] at hp; subst hp; exact hw _ sid
          · unfold appP
            rw [e2, hnone, e3, hnew]
            simp only
            rw [e1 id sid, ho]
            exact ⟨hne, h1, h2, h3, by rw [drop_renew_act]; exact hK2⟩
      · exact h.elim
    · exact h.elim

theorem cp_form {k : Nat} {x v : X} {d : Option Nat} (h : stepI P d (.cp k x v) s K) : ∃ Kl U u, K (s.act Kl U d u) ∧ EffOk P (.cp k x v) d s (wOf (.cp k x v) s ++ d.toList) Kl U u := by
  simp only [stepI] at h
  have again : ∀ {Kl U u}, (∀ s2 : St, (∀ j, j ∈ (s.ev x).ids → s2.ob j = s.ob j) → (srcRows s2 k (s.ev v) = srcRows s k (s.ev v)) → ∀ K2 : St → Prop, K2 (s2.act Kl U d u) → cpP k s2 d (s.ev x) (s.ev v) K2) →
      ∀ s2 : St, (∀ y, y ∈ (IOp.cp k x v).xs → s2.ev y = s.ev y) → (∀ y, y ∈ (IOp.cp k x v).xs → ∀ j, j ∈ (s.ev y).ids → s2.objs j = s.objs j) → (∀ e, d = some e → s.objs e = .none → s2.objs e = .none) → ∀ K2 : St → Prop, K2 (s2.act Kl U d u) → stepI P d (.cp k x v) s2 K2 := by
    intro Kl U u hh s2 hx hob hn K2 hK2
    simp only [stepI]
    rw [hx x (by simp [IOp.xs]), hx v (by simp [IOp.xs])]
    have hs := src_eq (k := k) fun j hj => hob v (by simp [IOp.xs]) j hj
    exact hh s2 (fun j hj => hob x (by simp [IOp.xs]) j hj) hs.1 K2 hK2
  have hw : ∀ j, j ∈ (s.ev x).ids → j ∈ wOf (.cp k x v) s ++ d.toList := fun j hj => by simp [wOf, hj]
  have sid : ∀ {id k n}, id ∈ (AV.own id k n).ids := by intro id k n; simp [AV.ids, AV.ids2, AV.ids1, AV.ids0]
  revert h again hw
  generalize hx : s.ev x = a; generalize hv : s.ev v = y
  intro h again hw
  unfold cpP at h
  split at h
  · rename_i new hnew
    split at h
    · rename_i id k' n
      cases ho : s.ob id <;> rw [ho] at h <;> first | exact h.elim | skip
      rename_i k2 rows
      obtain ⟨h1, h2, h3⟩ := h
      rw [setOb_act] at h3
      refine ⟨_, _, _, h3, fun j hj => (by cases hj), fun p hp => ?_, again fun s2 e1 e2 K2 hK2 => ?_⟩
      · simp only [List.mem_singleton] at hp; subst hp; exact hw _ sid
      · unfold cpP
        rw [e2, hnew]
        simp only
        rw [e1 id sid, ho]
        exact ⟨h1, h2, by rw [setOb_act]; exact hK2⟩
    · exact h.elim
  · exact h.elim

theorem eff_form {op : IOp} (ho : op.isEff = true) {d : Option Nat} (h : stepI P d op s K) : ∃ Kl U u, K (s.act Kl U d u) ∧ EffOk P op d s (wOf op s ++ d.toList) Kl U u := by
  cases op <;> first | cases ho | skip
  · exact st1_form h
  · exact stn_form h
  · exact app_form h
  · exact cp_form h
theorem wOf_ids {op : IOp} (ho : op.isEff = true) {s : St} : ∀ j, j ∈ wOf op s → ∃ x, x ∈ op.xs ∧ j ∈ (s.ev x).ids := by
  intro j hj
  cases op <;> first | cases ho | skip
  · rename_i x v
    simp only [wOf, List.mem_append] at hj
    rcases hj with hj | hj
    · exact ⟨x, by simp [IOp.xs], hj⟩
    · split at hj
      · exact ⟨v, by simp [IOp.xs], hj⟩
      · cases hj
  · rename_i n x v
    simp only [wOf, List.mem_append] at hj
    rcases hj with hj | hj
    · exact ⟨x, by simp [IOp.xs], hj⟩
    · split at hj
      · exact ⟨v, by simp [IOp.xs], hj⟩
      · cases hj
  · rename_i k b x v
    simp only [wOf, List.mem_append] at hj
    rcases hj with hj | hj
    · exact ⟨x, by simp [IOp.xs], hj⟩
    · split at hj
      · cases hj
      · exact ⟨v, by simp [IOp.xs], hj⟩
  · rename_i k x v
    exact ⟨x, by simp [IOp.xs], hj⟩
end

end Go.Proofs.Ytenfgllkjgfjpaa
