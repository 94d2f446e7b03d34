/- The abstract machine, part E: what instructions touch; two of them that change places. -/
import Derived.Test.YtenfgllkjgfjpaaMCore17
set_option linter.all false
namespace Go.Proofs.Ytenfgllkjgfjpaa
open Go.RowKit

/-- What an instruction touches; whether all that it reads is known. -/
abbrev Lab := List Nat × Bool

def AV.cl1 : AV → Bool
  | .any => false
  | _ => true
def AV.cl2 : AV → Bool
  | .agg l | .fn _ l => l.all AV.cl1
  | x => x.cl1
def AV.cl : AV → Bool
  | .tup l => l.all AV.cl2
  | x => x.cl2
def AV.kills1 (l : List Nat) (x : AV) : AV := l.foldl (fun x i => x.kill1 i) x

theorem free1_iff {i : Nat} {x : AV} (h : i ∉ x.ids1) : x.free1 i = true := by
  cases x <;> first | rfl | (simp [AV.ids1, AV.ids0] at h; simp [AV.free1]; exact Ne.symm h)
theorem free2_iff {i : Nat} {x : AV} (h : i ∉ x.ids2) : x.free2 i = true := by
  cases x
  case agg l => exact List.all_eq_true.2 fun y hy => free1_iff fun hi => h (List.mem_flatMap.2 ⟨y, hy, hi⟩)
  case fn f l => exact List.all_eq_true.2 fun y hy => free1_iff fun hi => h (List.mem_flatMap.2 ⟨y, hy, hi⟩)
  all_goals (simp only [AV.ids2] at h; simp only [AV.free2]; exact free1_iff h)
theorem kill1_free {i : Nat} {x : AV} (h : i ∉ x.ids1) : x.kill1 i = x := by
  unfold AV.kill1; rw [if_pos (free1_iff h)]
theorem map_same {α : Type} {f : α → α} {l : List α} (h : ∀ x, x ∈ l → f x = x) : l.map f = l := by
  rw [List.map_congr_left h]; simp
theorem kill_free {i : Nat} {x : AV} (h : i ∉ x.ids) : x.kill i = x := by
  cases x
  case agg l =>
    simp only [AV.kill]
    rw [map_same fun y hy => kill1_free fun hi => h (List.mem_flatMap.2 ⟨y, hy, hi⟩)]
  case fn f l =>
    simp only [AV.kill]
    rw [if_pos (List.all_eq_true.2 fun y hy => free1_iff fun hi => h (List.mem_flatMap.2 ⟨y, hy, hi⟩))]
  case tup l =>
    simp only [AV.kill]
    rw [if_pos (List.all_eq_true.2 fun y hy => free2_iff fun hi => h (List.mem_flatMap.2 ⟨y, hy, hi⟩))]
  all_goals exact kill1_free h
theorem kill1_clean {i : Nat} {x : AV} (h : (x.kill1 i).cl1 = true) : x.kill1 i = x := by
  unfold AV.kill1 at h ⊢
  split
  · rfl
  · rename_i e; rw [if_neg e] at h; cases h
theorem cl_cl1 {x : AV} (h : x.cl = true) : x.cl1 = true := by cases x <;> first | rfl | exact h
theorem kill_clean {i : Nat} {x : AV} (h : (x.kill i).cl = true) : x.kill i = x := by
  cases x
  case agg l =>
    simp only [AV.kill, AV.cl, AV.cl2, List.all_map, List.all_eq_true] at h ⊢
    rw [map_same fun y hy => kill1_clean (h y hy)]
  case fn f l =>
    simp only [AV.kill] at h ⊢
    split
    · rfl
    · rename_i e; rw [if_neg e] at h; cases h
  case tup l =>
    simp only [AV.kill] at h ⊢
    split
    · rfl
    · rename_i e; rw [if_neg e] at h; cases h
  all_goals exact kill1_clean (cl_cl1 h)
theorem kills_free : ∀ {l : List Nat} {x : AV}, (∀ i, i ∈ l → i ∉ x.ids) → x.kills l = x
  | [], _, _ => rfl
  | a :: l, x, h => by
    show (x.kill a).kills l = x
    rw [kill_free (h a (by simp))]
    exact kills_free fun i hi => h i (by simp [hi])
theorem kills_clean : ∀ {l : List Nat} {x : AV}, (x.kills l).cl = true → x.kills l = x
  | [], _, _ => rfl
  | a :: l, x, h => by
    have h' : ((x.kill a).kills l).cl = true := h
    have e := kills_clean h'
    show (x.kill a).kills l = x
    rw [e] at h' ⊢
    exact kill_clean h'
theorem kills1_free : ∀ {l : List Nat} {x : AV}, (∀ i, i ∈ l → i ∉ x.ids1) → x.kills1 l = x
  | [], _, _ => rfl
  | a :: l, x, h => by
    show (x.kill1 a).kills1 l = x
    rw [kill1_free (h a (by simp))]
    exact kills1_free fun i hi => h i (by simp [hi])
theorem kills1_clean : ∀ {l : List Nat} {x : AV}, (x.kills1 l).cl1 = true → x.kills1 l = x
  | [], _, _ => rfl
  | a :: l, x, h => by
    have h' : ((x.kill1 a).kills1 l).cl1 = true := h
    have e := kills1_clean h'
    show (x.kill1 a).kills1 l = x
    rw [e] at h' ⊢
    exact kill1_clean h'
theorem ids0_ids1 {x : AV} {i : Nat} (h : i ∈ x.ids0) : i ∈ x.ids1 := by cases x <;> first | exact h | cases h
theorem ids1_ids {x : AV} {i : Nat} (h : i ∈ x.ids1) : i ∈ x.ids := by
  cases x
  case agg l => obtain ⟨y, hy, hi⟩ := List.mem_flatMap.1 h; exact List.mem_flatMap.2 ⟨y, hy, ids0_ids1 hi⟩
  case fn f l => obtain ⟨y, hy, hi⟩ := List.mem_flatMap.1 h; exact List.mem_flatMap.2 ⟨y, hy, ids0_ids1 hi⟩
  all_goals first | exact h | cases h

theorem okills_box : ∀ (l : List Nat) (cells : List AV), (Obj.box cells).kills l = .box (cells.map (AV.kills1 l))
  | [], cells => by
    show Obj.box cells = .box (cells.map (AV.kills1 []))
    rw [map_same (f := AV.kills1 []) fun x _ => rfl]
  | a :: l, cells => by
    show (Obj.box (cells.map (AV.kill1 a))).kills l = _
    rw [okills_box l, List.map_map]
    rfl
theorem okills_row : ∀ (l : List Nat) {k : Nat} {rows : List (List C)}, (Obj.row k rows).kills l = .row k rows
  | [], _, _ => rfl
  | a :: l, k, rows => okills_row l
theorem okills_tr' : ∀ (l : List Nat) {k v : Nat} {rows : List (List C)}, (Obj.tr k v rows).kills l = .tr k v rows
  | [], _, _, _ => rfl
  | a :: l, k, v, rows => okills_tr' l
/-- Nothing in it names an object. -/
def Obj.bare : Obj → Prop
  | .box l => ∀ x, x ∈ l → x.ids1 = []
  | _ => True
theorem okills_bare {l : List Nat} {o : Obj} (h : o.bare) : o.kills l = o := by
  cases o with
  | none => exact Obj.none_kills l
  | box cells => rw [okills_box, map_same fun x hx => kills1_free fun i _ => by rw [h x hx]; simp]
  | row k rows => exact okills_row l
  | tr k v rows => exact okills_tr' l

def actO (Kl : List Nat) (U : List (Nat × Obj)) (o : Obj) (i : Nat) : Obj :=
  match U.find? (fun p => p.1 == i) with
  | some p => p.2
  | none => if i ∈ Kl then .none else o.kills Kl
/-- Those of Kl are given away, those of U are laid anew, v is put down. -/
def St.act (s : St) (Kl : List Nat) (U : List (Nat × Obj)) (d : Option Nat) (v : AV) : St :=
  (⟨fun t => (s.env t).kills Kl, fun i => actO Kl U (s.objs i) i⟩ : St).put d v
theorem actO_not {Kl : List Nat} {U : List (Nat × Obj)} {o : Obj} {i : Nat} (h1 : i ∉ Kl) (h2 : ∀ p, p ∈ U → p.1 ≠ i) : actO Kl U o i = o.kills Kl := by
  unfold actO
  have : U.find? (fun p => p.1 == i) = none := by
    rw [List.find?_eq_none]
    intro p hp
    simpa using h2 p hp
  rw [this]
  simp [h1]

theorem St.ext' {s s' : St} (he : ∀ t, s.env t = s'.env t) (ho : ∀ i, s.objs i = s'.objs i) : s = s' := by
  obtain ⟨e, o⟩ := s
  obtain ⟨e', o'⟩ := s'
  congr
  · exact funext he
  · exact funext ho
theorem put_ne {s : St} {d : Option Nat} {v : AV} {t : Nat} (h : d ≠ some t) : (s.put d v).env t = s.env t := by
  cases d with
  | none => rfl
  | some e => show upd e v s.env t = _; rw [upd_apply, if_neg (fun h' => h (by rw [h']))]
theorem put_eq {s : St} {d : Option Nat} {v : AV} {t : Nat} (h : d = some t) : (s.put d v).env t = v := by
  subst h; show upd t v s.env t = _; rw [upd_apply, if_pos rfl]
theorem put_objs {s : St} {d : Option Nat} {v : AV} : (s.put d v).objs = s.objs := by cases d <;> rfl
theorem act_ne {s : St} {Kl : List Nat} {U : List (Nat × Obj)} {d : Option Nat} {v : AV} {t : Nat} (h : d ≠ some t) : (s.act Kl U d v).env t = (s.env t).kills Kl := put_ne h
theorem act_eq {s : St} {Kl : List Nat} {U : List (Nat × Obj)} {d : Option Nat} {v : AV} {t : Nat} (h : d = some t) : (s.act Kl U d v).env t = v := put_eq h
theorem act_objs {s : St} {Kl : List Nat} {U : List (Nat × Obj)} {d : Option Nat} {v : AV} {i : Nat} : (s.act Kl U d v).objs i = actO Kl U (s.objs i) i := by
  unfold St.act; rw [put_objs]

/-! What is read depends on what is looked at. -/
section
variable {P : Program} {ev ev' : X → AV} {ob ob' : Nat → Obj}

theorem valP_ev {op : IOp} (hq : op.reads.isSome = true) {k : AV → Prop} (hx : ∀ x, x ∈ op.xs → ev' x = ev x) (h : valP P op ev ob k) : valP P op ev' ob k := by
  have ml : ∀ xs : List X, (∀ x, x ∈ xs → ev' x = ev x) → xs.map ev' = xs.map ev := fun xs h => List.map_congr_left h
  have mo : ∀ x : Option X, (∀ y, y ∈ x.toList → ev' y = ev y) → x.map ev' = x.map ev := by
    intro x h
    cases x with
    | none => rfl
    | some x => simp only [Option.map_some]; rw [h x (by simp)]
  cases op <;> simp only [IOp.xs, List.mem_cons, List.not_mem_nil, or_false, forall_eq_or_imp, forall_eq] at hx <;> simp only [valP] at h ⊢
  all_goals first
    | exact h
    | (rw [hx.1, hx.2.1, hx.2.2]; exact h)
    | (rw [hx.1, hx.2]; exact h)
    | (rw [hx]; exact h)
    | (rw [ml _ hx]; exact h)
    | (rw [hx.1, ml _ hx.2]; exact h)
    | (rw [hx.1, mo _ (fun y hy => hx.2 y (by simp [hy])), mo _ (fun y hy => hx.2 y (by simp [hy]))]; exact h)
    | (rw [hx.1, mo _ (fun y hy => hx.2 y (by simp [hy])), mo _ (fun y hy => hx.2 y (by simp [hy])), mo _ (fun y hy => hx.2 y (by simp [hy]))]; exact h)
    | (rw [← bldPs_congr (s := ⟨fun t => ev (.t t), ob⟩)]
       · exact h
       · intro x hx'
         cases x with
         | t n => exact (hx (.t n) hx').symm
         | k a => rfl)
    | (rename_i n x
       match n, hq with
       | 0, _ => simp only at h ⊢; rw [hx]; exact h
       | 1, _ => simp only at h ⊢; rw [hx]; exact h)

/-- What v shows of the one, the other shows too. -/
def ObRel (v : AV) (o o' : Obj) : Prop :=
  match o with
  | .box l => ∃ l', o' = .box l' ∧ l'.length = l.length ∧ ∀ (j : Nat) (x : AV), l[j]? = some x → (v = x ∨ ∃ m, v = .agg m ∧ x ∈ m) → l'[j]? = some x
  | o => o' = o
theorem ObRel.refl (v : AV) (o : Obj) : ObRel v o o := by
  cases o with
  | box l => exact ⟨l, rfl, rfl, fun _ _ h _ => h⟩
  | _ => rfl
theorem ObRel.kills {v : AV} {l : List Nat} {o : Obj} (h : ∀ i, i ∈ l → i ∉ v.ids) : ObRel v o (o.kills l) := by
  cases o with
  | none => exact Obj.none_kills l
  | row k rows => exact okills_row l
  | tr k u rows => exact okills_tr' l
  | box cells =>
    refine ⟨_, okills_box l cells, by simp, fun j x hx hv => ?_⟩
    rw [List.getElem?_map, hx, Option.map_some, kills1_free]
    intro i hi hc
    refine h i hi ?_
    rcases hv with rfl | ⟨m, rfl, hm⟩
    · exact ids1_ids hc
    · exact List.mem_flatMap.2 ⟨x, hm, hc⟩
theorem ObRel.unkill {v : AV} {l : List Nat} {o : Obj} (h : v.cl = true) : ObRel v (o.kills l) o := by
  cases o with
  | none => rw [Obj.none_kills]; rfl
  | row k rows => rw [okills_row]; rfl
  | tr k u rows => rw [okills_tr']; rfl
  | box cells =>
    rw [okills_box]
    refine ⟨_, rfl, by simp, fun j x hx hv => ?_⟩
    rw [List.getElem?_map, Option.map_eq_some_iff] at hx
    obtain ⟨y, hy, rfl⟩ := hx
    rw [hy, kills1_clean]
    rcases hv with rfl | ⟨m, rfl, hm⟩
    · exact cl_cl1 h
    · exact List.all_eq_true.1 h _ hm

theorem valP_ob {op : IOp} (hq : op.reads.isSome = true) (hc : op.isCall = false) {v : AV} (hob : ∀ x, x ∈ op.xs → ∀ i, i ∈ (ev x).ids → ObRel v (ob i) (ob' i)) (h : ∀ k : AV → Prop, k v → valP P op ev ob k) : ∀ k : AV → Prop, k v → valP P op ev ob' k := by
  intro k hk
  have hv := h (fun r => r = v) rfl
  have hkk := h k hk
  have e1 : ∀ id, (obSt ob).ob id = ob id := fun _ => rfl
  have e2 : ∀ id, (obSt ob').ob id = ob' id := fun _ => rfl
  cases op
  case idx n x i =>
    simp only [valP] at hkk hv ⊢
    have hx := hob x (by simp [IOp.xs])
    revert hkk hx
    generalize ev x = a; generalize ev i = b
    intro hkk hx
    unfold idxP at hkk ⊢
    split at hkk <;> first | exact hkk | skip
    rename_i id ver i j k' m n
    have hr := hx id (by simp [AV.ids, AV.ids2, AV.ids1, AV.ids0])
    rw [e1] at hkk
    simp only [e2]
    cases ho : ob id <;> rw [ho] at hkk hr <;> first | exact hkk.elim | skip
    have hr' : ob' id = _ := hr
    rw [hr']; exact hkk
  case fld off x =>
    simp only [valP] at hkk hv ⊢
    have hx := hob x (by simp [IOp.xs])
    revert hkk hx
    generalize ev x = a
    intro hkk hx
    unfold fldP at hkk ⊢
    split at hkk <;> first | exact hkk | skip
    rename_i id ver i j k' i' o
    have hr := hx id (by simp [AV.ids, AV.ids2, AV.ids1, AV.ids0])
    rw [e1] at hkk
    simp only [e2]
    cases ho : ob id <;> rw [ho] at hkk hr <;> first | exact hkk.elim | skip
    have hr' : ob' id = _ := hr
    rw [hr']; exact hkk
  case len x =>
    simp only [valP] at hkk hv ⊢
    have hx := hob x (by simp [IOp.xs])
    revert hkk hx
    generalize ev x = a
    intro hkk hx
    unfold lenP at hkk ⊢
    split at hkk <;> first | exact hkk | skip
    rename_i id ver i j k' n
    have hr := hx id (by simp [AV.ids, AV.ids2, AV.ids1, AV.ids0])
    rw [e1] at hkk
    simp only [e2]
    cases ho : ob id <;> rw [ho] at hkk hr <;> first | exact hkk.elim | skip
    have hr' : ob' id = _ := hr
    rw [hr']; exact hkk
  case sla m n x i =>
    simp only [valP] at hkk hv ⊢
    have hx := hob x (by simp [IOp.xs])
    revert hkk hx
    generalize ev x = a; generalize ev i = b
    intro hkk hx
    unfold slaP at hkk ⊢
    split at hkk <;> first | exact hkk.elim | skip
    rename_i id k' j h
    have hr := hx id (by simp [AV.ids, AV.ids2, AV.ids1, AV.ids0])
    rw [e1] at hkk
    simp only [e2]
    cases ho : ob id <;> rw [ho] at hkk hr <;> first | exact hkk.elim | skip
    have hr' : ob' id = _ := hr
    rw [hr']; exact hkk
  case ld1 x =>
    simp only [valP] at hkk hv ⊢
    have hx := hob x (by simp [IOp.xs])
    revert hkk hv hx
    generalize ev x = a
    intro hv hkk hx
    unfold ld1P at hkk hv ⊢
    split at hkk
    · rename_i id o
      have hr := hx id (by simp [AV.ids, AV.ids2, AV.ids1, AV.ids0])
      simp only [e1] at hkk hv
      simp only [e2]
      cases ho : ob id <;> rw [ho] at hkk hr hv <;> first | exact hkk.elim | skip
      rename_i cells
      obtain ⟨l', e3, _, e4⟩ := hr
      rw [e3]
      simp only at hv hkk ⊢
      cases hc : cells[o]? <;> rw [hc] at hv
      · exact hv.elim
      · rename_i u
        have hu : u = v := hv
        subst hu
        rw [e4 o u hc (.inl rfl)]
        exact hk
    · rename_i id k' i o
      have hr := hx id (by simp [AV.ids, AV.ids2, AV.ids1, AV.ids0])
      rw [e1] at hkk
      simp only [e2]
      cases ho : ob id <;> rw [ho] at hkk hr <;> first | exact hkk.elim | skip
      all_goals
        have hr' : ob' id = _ := hr
        rw [hr']; exact hkk
    · rename_i id ver i j k' i' o
      have hr := hx id (by simp [AV.ids, AV.ids2, AV.ids1, AV.ids0])
      rw [e1] at hkk
      simp only [e2]
      cases ho : ob id <;> rw [ho] at hkk hr <;> first | exact hkk.elim | skip
      all_goals
        have hr' : ob' id = _ := hr
        rw [hr']; exact hkk
    · exact hkk
    · exact hkk.elim
  case ldn n x =>
    simp only [valP] at hkk hv ⊢
    have hx := hob x (by simp [IOp.xs])
    revert hkk hv hx
    generalize ev x = a
    intro hv hkk hx
    unfold ldnP at hkk hv ⊢
    split at hkk
    · rename_i id o
      have hr := hx id (by simp [AV.ids, AV.ids2, AV.ids1, AV.ids0])
      simp only [e1] at hkk hv
      simp only [e2]
      cases ho : ob id <;> rw [ho] at hkk hr hv <;> first | exact hkk.elim | skip
      rename_i cells
      obtain ⟨l', e3, e5, e4⟩ := hr
      rw [e3]
      simp only at hv hkk ⊢
      obtain ⟨h1, h2⟩ := hv
      refine ⟨by omega, ?_⟩
      have : (l'.drop o).take n = (cells.drop o).take n := by
        apply List.ext_getElem?
        intro q
        rw [List.getElem?_take, List.getElem?_take]
        split
        · rename_i hq
          rw [List.getElem?_drop, List.getElem?_drop]
          have hlt : o + q < cells.length := by omega
          have hg := List.getElem?_eq_getElem hlt
          rw [hg]
          refine e4 _ _ hg (.inr ⟨_, h2.symm, ?_⟩)
          refine List.mem_of_getElem? (i := q) ?_
          rw [List.getElem?_take, if_pos hq, List.getElem?_drop]; exact hg
        · rfl
      rw [this]
      exact hkk.2
    · rename_i id k' i o
      have hr := hx id (by simp [AV.ids, AV.ids2, AV.ids1, AV.ids0])
      rw [e1] at hkk
      simp only [e2]
      cases ho : ob id <;> rw [ho] at hkk hr <;> first | exact hkk.elim | skip
      all_goals
        have hr' : ob' id = _ := hr
        rw [hr']; exact hkk
    · rename_i id ver i j k' i' o
      have hr := hx id (by simp [AV.ids, AV.ids2, AV.ids1, AV.ids0])
      rw [e1] at hkk
      simp only [e2]
      cases ho : ob id <;> rw [ho] at hkk hr <;> first | exact hkk.elim | skip
      all_goals
        have hr' : ob' id = _ := hr
        rw [hr']; exact hkk
    · exact hkk
    · exact hkk.elim
  case cvt n x =>
    match n, hq with
    | 0, _ => exact hkk
    | 1, _ => exact hkk
  case bld zs ps =>
    simp only [valP] at hkk ⊢
    rw [← bldPs_congr (s := ⟨fun t => ev (.t t), ob⟩)]
    · exact hkk
    · intro x _; cases x <;> rfl
  case call f xs => cases hc
  case callv f xs => cases hc
  all_goals first | exact hkk | (simp [IOp.reads] at hq)

theorem out1_frame {x y : AV} (h : ∀ i, i ∈ x.ids0 → ob' i = ob i) (hh : out1 (obSt ob) x y) : out1 (obSt ob') x y := by
  have e1 : ∀ id, (obSt ob).ob id = ob id := fun _ => rfl
  have e2 : ∀ id, (obSt ob').ob id = ob' id := fun _ => rfl
  cases x <;> simp only [out1, e1, e2] at hh ⊢ <;> first | exact hh | (rw [h _ (by simp [AV.ids0])]; exact hh)
theorem outs1_frame : ∀ {l l' : List AV}, (∀ x, x ∈ l → ∀ i, i ∈ x.ids0 → ob' i = ob i) → outs1 (obSt ob) l l' → outs1 (obSt ob') l l'
  | [], [], _, _ => trivial
  | [], _ :: _, _, h => h.elim
  | _ :: _, [], _, h => h.elim
  | x :: l, y :: l', hx, h => ⟨out1_frame (hx x (by simp)) h.1, outs1_frame (fun z hz => hx z (by simp [hz])) h.2⟩
theorem out2_frame {e : Nat} (hob : ∀ i, i ≠ e → ob' i = ob i) (hcell : ∀ i cells, ob i = .box cells → ∀ x, x ∈ cells → e ∉ x.ids0) {x y : AV} (h : e ∉ x.ids1) (hh : out2 (obSt ob) x y) : out2 (obSt ob') x y := by
  have e1 : ∀ id, (obSt ob).ob id = ob id := fun _ => rfl
  have e2 : ∀ id, (obSt ob').ob id = ob' id := fun _ => rfl
  have ne : ∀ {z : AV}, e ∉ z.ids0 → ∀ i, i ∈ z.ids0 → ob' i = ob i := fun hz i hi => hob i fun e => hz (e ▸ hi)
  cases x
  case agg l =>
    cases y <;> simp only [out2] at hh ⊢
    exact outs1_frame (fun z hz => ne fun hc => h (List.mem_flatMap.2 ⟨z, hz, hc⟩)) hh
  case fn f l =>
    cases y <;> simp only [out2] at hh ⊢
    exact ⟨hh.1, outs1_frame (fun z hz => ne fun hc => h (List.mem_flatMap.2 ⟨z, hz, hc⟩)) hh.2⟩
  case box id off =>
    have hid : ob' id = ob id := hob id fun e3 => h (by simp [AV.ids1, AV.ids0, e3])
    simp only [out2, e1, e2] at hh ⊢
    rw [hid]
    cases ho : ob id <;> rw [ho] at hh <;> first | exact hh.elim | skip
    rename_i cells
    simp only at hh ⊢
    split at hh
    · exact outs1_frame (fun z hz => ne (hcell id cells ho z (List.mem_of_mem_drop hz))) hh
    · exact hh.elim
  all_goals exact out1_frame (y := y) (ne fun hc => h (ids0_ids1 hc)) hh
theorem outs2_frame {e : Nat} (hob : ∀ i, i ≠ e → ob' i = ob i) (hcell : ∀ i cells, ob i = .box cells → ∀ x, x ∈ cells → e ∉ x.ids0) : ∀ {l l' : List AV}, (∀ x, x ∈ l → e ∉ x.ids1) → outs2 (obSt ob) l l' → outs2 (obSt ob') l l'
  | [], [], _, _ => trivial
  | [], _ :: _, _, h => h.elim
  | _ :: _, [], _, h => h.elim
  | x :: l, y :: l', hx, h => ⟨out2_frame hob hcell (hx x (by simp)) h.1, outs2_frame hob hcell (fun z hz => hx z (by simp [hz])) h.2⟩

theorem valP_obM {op : IOp} (hq : op.reads.isSome = true) {e : Nat} (hob : ∀ i, i ≠ e → ob' i = ob i) (hcell : ∀ i cells, ob i = .box cells → ∀ x, x ∈ cells → e ∉ x.ids0) {v : AV} (hx : ∀ x, x ∈ op.xs → e ∉ (ev x).ids) (h : ∀ k : AV → Prop, k v → valP P op ev ob k) : ∀ k : AV → Prop, k v → valP P op ev ob' k := by
  cases hc : op.isCall with
  | false => exact valP_ob hq hc (fun x hx' i hi => by rw [hob i (fun e3 => hx x hx' (e3 ▸ hi))]; exact ObRel.refl _ _) h
  | true =>
    intro k hk
    have hkk := h k hk
    cases op <;> first | cases hc | skip
    · simp only [valP] at hkk ⊢
      obtain ⟨args, res, h1, h2, h3⟩ := hkk
      refine ⟨args, res, h1, outs2_frame hob hcell (fun y hy => ?_) h2, h3⟩
      obtain ⟨x, hx', rfl⟩ := List.mem_map.1 hy
      exact fun hc => hx x hx' (ids1_ids hc)
    · rename_i f xs
      simp only [valP] at hkk ⊢
      have hf := hx f (by simp [IOp.xs])
      revert hkk hf
      generalize ev f = fv
      intro hkk hf
      unfold callvD at hkk ⊢
      split at hkk
      · rename_i f' l
        obtain ⟨h0, args, res, h1, h2, h3⟩ := hkk
        refine ⟨h0, args, res, h1, outs2_frame hob hcell (fun y hy => ?_) h2, h3⟩
        rcases List.mem_append.1 hy with hy | hy
        · obtain ⟨x, hx', rfl⟩ := List.mem_map.1 hy
          exact fun hc => hx x (by simp [IOp.xs, hx']) (ids1_ids hc)
        · exact fun hc => hf (List.mem_flatMap.2 ⟨y, hy, hc⟩)
      · exact hkk.elim
end

end Go.Proofs.Ytenfgllkjgfjpaa
