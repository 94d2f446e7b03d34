/- The abstract machine, part 7: what a step that turns some objects does to the relation: one law for all. -/
import Derived.Test.YtenfgllkjgfjpaaMCore6
set_option linter.all false
namespace Go.Proofs.Ytenfgllkjgfjpaa
open Go.RowKit

section
variable {w w' : World} {G G' : Nat → Prop} {O O' : Nat → Obj} {blk blk' : Nat → Option Nat} {b : Option Nat} {o : Obj} {S S' : Nat → Prop}
theorem ObjOk.keep (K : Keeps w w' G G' O O' blk blk') (hs : ∀ q, b = some q → o ≠ .none → w'.heap[q]? = w.heap[q]?) (hS : ∀ q, S q → o ≠ .none → w'.heap[q]? = w.heap[q]?) (h : ObjOk w G O blk S b o) : ObjOk w' G' O' blk' S b o := by
  cases o with
  | none => trivial
  | box cells =>
    obtain ⟨q, arr, e, e1, e2, e3, e4⟩ := h
    exact ⟨q, arr, e, e1, by rw [hs q e1 (by simp)]; exact e2, e3, fun j x hx => let ⟨u, hu, hr⟩ := e4 j x hx; ⟨u, hu, hr.keep K⟩⟩
  | row k rows =>
    rcases h with h | ⟨q, arr, e, e1, e2, e3, e4, e5⟩
    · exact .inl h
    · exact .inr ⟨q, arr, e, e1, by rw [hs q e1 (by simp)]; exact e2, e3, e4, fun i r j c hr hc => let ⟨u, hu, hr⟩ := e5 i r j c hr hc; ⟨u, hu, hr.mono K.good K.cell⟩⟩
  | tr k ver rows =>
    rcases h with h | ⟨q, arr, e, e1, e2, e3, e4, e5⟩
    · exact .inl h
    · exact .inr ⟨q, arr, e, e1, by rw [hs q e1 (by simp)]; exact e2, e3, e4, e5.mono K.good K.cell (fun _ h => h) fun x hx => hS x hx (by simp)⟩
end

/-! What points to objects that are given away is forgotten. -/
def dropO (O : Nat → Obj) (id i : Nat) : Obj := if i = id then .none else O i

section
variable {w : World} {G : Nat → Prop} {O : Nat → Obj} {blk : Nat → Option Nat} {v : Value} {x : AV} {id : Nat}
theorem RV1.drop (h : RV1 w G O blk v x) (hf : x.free1 id = true) : RV1 w G (dropO O id) blk v x := by
  cases x with
  | box i off =>
    obtain ⟨b, cells, ho, r⟩ := h
    have : i ≠ id := by simpa [AV.free1] using hf
    exact ⟨b, cells, by rw [dropO, if_neg this]; exact ho, r⟩
  | row i k n off =>
    obtain ⟨b, cells, ho, r⟩ := h
    have : i ≠ id := by simpa [AV.free1] using hf
    exact ⟨b, cells, by rw [dropO, if_neg this]; exact ho, r⟩
  | own i k n =>
    obtain ⟨rows, ho, r⟩ := h
    have : i ≠ id := by simpa [AV.free1] using hf
    exact ⟨rows, by rw [dropO, if_neg this]; exact ho, r⟩
  | cut i k lo n =>
    obtain ⟨m, A, c, ho, r⟩ := h
    have : i ≠ id := by simpa [AV.free1] using hf
    exact ⟨m, A, c, by rw [dropO, if_neg this]; exact ho, r⟩
  | sub i ver n j k m =>
    obtain ⟨k0, ver', rows, ho, r⟩ := h
    have : i ≠ id := by simpa [AV.free1] using hf
    exact ⟨k0, ver', rows, by rw [dropO, if_neg this]; exact ho, r⟩
  | srow i ver n j k m off =>
    obtain ⟨k0, ver', rows, ho, r⟩ := h
    have : i ≠ id := by simpa [AV.free1] using hf
    exact ⟨k0, ver', rows, by rw [dropO, if_neg this]; exact ho, r⟩
  | _ => exact h
theorem RV1.kill (h : RV1 w G O blk v x) : RV1 w G (dropO O id) blk v (x.kill1 id) := by
  unfold AV.kill1
  split
  · exact h.drop ‹_›
  · trivial
theorem RV2.drop (h : RV2 w G O blk v x) (hf : x.free2 id = true) : RV2 w G (dropO O id) blk v x := by
  cases x
  case agg l =>
    obtain ⟨arr, e, hs, hx⟩ := h
    exact ⟨arr, e, hs, fun j x hj => let ⟨u, hu, hr⟩ := hx j x hj; ⟨u, hu, hr.drop (List.all_eq_true.1 hf x (List.mem_of_getElem? hj))⟩⟩
  case fn f l =>
    obtain ⟨arr, e, hs, hx⟩ := h
    exact ⟨arr, e, hs, fun j x hj => let ⟨u, hu, hr⟩ := hx j x hj; ⟨u, hu, hr.drop (List.all_eq_true.1 hf x (List.mem_of_getElem? hj))⟩⟩
  all_goals (simp only [RV2] at h ⊢; exact RV1.drop h hf)
theorem RV2.kill (h : RV2 w G O blk v x) : RV2 w G (dropO O id) blk v (x.kill id) := by
  cases x
  case agg l =>
    obtain ⟨arr, e, hs, hx⟩ := h
    refine ⟨arr, e, by simpa using hs, fun j x hj => ?_⟩
    rw [List.getElem?_map, Option.map_eq_some_iff] at hj
    obtain ⟨y, hy, rfl⟩ := hj
    obtain ⟨u, hu, hr⟩ := hx j y hy
    exact ⟨u, hu, hr.kill⟩
  case fn f l =>
    simp only [AV.kill]
    split
    · rename_i hall
      obtain ⟨arr, e, hs, hx⟩ := h
      exact ⟨arr, e, hs, fun j x hj => let ⟨u, hu, hr⟩ := hx j x hj; ⟨u, hu, hr.drop (List.all_eq_true.1 hall x (List.mem_of_getElem? hj))⟩⟩
    · trivial
  case tup l => exact (show False from h).elim
  all_goals
    (simp only [RV2] at h
     have := RV1.kill (id := id) h
     simp only [AV.kill]
     revert this
     unfold AV.kill1
     split
     · exact fun this => this
     · intro _; trivial)
theorem RV.kill (h : RV w G O blk v x) : RV w G (dropO O id) blk v (x.kill id) := by
  cases x
  case tup l =>
    simp only [AV.kill]
    split
    · rename_i hall
      obtain ⟨arr, e, hs, hx⟩ := h
      refine ⟨arr, e, hs, fun j x hj => ?_⟩
      obtain ⟨u, hu, hr⟩ := hx j x hj
      exact ⟨u, hu, hr.drop (List.all_eq_true.1 hall x (List.mem_of_getElem? hj))⟩
    · trivial
  case agg l => exact RV2.kill (id := id) (x := .agg l) h
  case fn f l =>
    have := RV2.kill (id := id) (x := .fn f l) h
    revert this
    simp only [AV.kill]
    split
    · exact fun h => h
    · intro _; trivial
  all_goals
    (simp only [RV, RV2] at h
     have := RV1.kill (id := id) h
     simp only [AV.kill]
     revert this
     unfold AV.kill1
     split
     · exact fun this => this
     · intro _; trivial)
theorem ObjOk.kill {S : Nat → Prop} {b : Option Nat} {o : Obj} (h : ObjOk w G O blk S b o) : ObjOk w G (dropO O id) blk S b (o.kill id) := by
  cases o with
  | none => trivial
  | box cells =>
    obtain ⟨q, arr, e, e1, e2, e3, e4⟩ := h
    refine ⟨q, arr, e, e1, e2, by simpa using e3, fun j x hj => ?_⟩
    rw [List.getElem?_map, Option.map_eq_some_iff] at hj
    obtain ⟨y, hy, rfl⟩ := hj
    obtain ⟨u, hu, hr⟩ := e4 j y hy
    exact ⟨u, hu, hr.kill⟩
  | row k rows => exact h
  | tr k ver rows => exact h
end

theorem Obj.kill_none (id : Nat) (o : Obj) : o.kill id ≠ .none ↔ o ≠ .none := by cases o <;> simp [Obj.kill]
theorem Obj.kill_like (id : Nat) (o : Obj) : o.like (o.kill id) := by cases o <;> simp [Obj.kill, Obj.like, Obj.dims]
theorem Obj.kill_tr (id : Nat) {o : Obj} {k v : Nat} {rows : List (List C)} (h : o.kill id = .tr k v rows) : o = .tr k v rows := by cases o <;> simp [Obj.kill] at h ⊢; exact h

def AV.kills (l : List Nat) (x : AV) : AV := l.foldl (fun x i => x.kill i) x
def Obj.kills (l : List Nat) (o : Obj) : Obj := l.foldl (fun o i => o.kill i) o
def dropsO (O : Nat → Obj) (l : List Nat) (i : Nat) : Obj := if i ∈ l then .none else O i

theorem dropsO_cons (O : Nat → Obj) (a : Nat) (l : List Nat) : dropsO (dropO O a) l = dropsO O (a :: l) := by
  funext i
  unfold dropsO dropO
  by_cases h1 : i ∈ l
  · simp [h1]
  · by_cases h2 : i = a <;> simp [h1, h2]
theorem dropsO_nil (O : Nat → Obj) : dropsO O [] = O := by funext i; simp [dropsO]

theorem RV.kills {w : World} {G : Nat → Prop} {blk : Nat → Option Nat} {v : Value} : ∀ (l : List Nat) {O : Nat → Obj} {x : AV}, RV w G O blk v x → RV w G (dropsO O l) blk v (x.kills l)
  | [], O, x, h => by rw [dropsO_nil]; exact h
  | a :: l, O, x, h => by rw [← dropsO_cons]; exact RV.kills l (O := dropO O a) (RV.kill h)
theorem ObjOk.kills {w : World} {G : Nat → Prop} {blk : Nat → Option Nat} {S : Nat → Prop} {b : Option Nat} : ∀ (l : List Nat) {O : Nat → Obj} {o : Obj}, ObjOk w G O blk S b o → ObjOk w G (dropsO O l) blk S b (o.kills l)
  | [], O, o, h => by rw [dropsO_nil]; exact h
  | a :: l, O, o, h => by rw [← dropsO_cons]; exact ObjOk.kills l (O := dropO O a) (ObjOk.kill h)
theorem Obj.kills_none : ∀ (l : List Nat) (o : Obj), o.kills l ≠ .none ↔ o ≠ .none
  | [], o => Iff.rfl
  | a :: l, o => (Obj.kills_none l (o.kill a)).trans (Obj.kill_none a o)
theorem Obj.like_trans {a b c : Obj} (h1 : a.like b) (h2 : b.like c) : a.like c := by
  cases a with
  | none => trivial
  | box l => cases b <;> first | (cases c <;> first | trivial | exact h2.elim) | exact h1.elim
  | row k rows =>
    obtain ⟨n, hn, hle⟩ := h1
    obtain ⟨m, hm, hle2⟩ := Obj.like_dims h2 hn
    exact ⟨m, hm, by omega⟩
  | tr k v rows =>
    cases b with
    | tr k1 v1 rows1 =>
      obtain ⟨rfl, a1, a2, a3⟩ := h1
      cases c with
      | tr k2 v2 rows2 =>
        obtain ⟨rfl, b1, b2, b3⟩ := h2
        refine ⟨rfl, by omega, by omega, fun e => ?_⟩
        rw [a3 (by omega), b3 (by omega)]
      | _ => exact h2.elim
    | _ => exact h1.elim
theorem Obj.kills_like : ∀ (l : List Nat) (o : Obj), o.like (o.kills l)
  | [], o => Obj.like_refl o
  | a :: l, o => Obj.like_trans (Obj.kill_like a o) (Obj.kills_like l (o.kill a))
theorem Obj.kills_tr : ∀ (l : List Nat) {o : Obj} {k v : Nat} {rows : List (List C)}, o.kills l = .tr k v rows → o = .tr k v rows
  | [], o, k, v, rows, h => h
  | a :: l, o, k, v, rows, h => Obj.kill_tr a (Obj.kills_tr l (o := o.kill a) h)
theorem Obj.none_kills : ∀ (l : List Nat), Obj.none.kills l = .none
  | [] => rfl
  | _ :: l => Obj.none_kills l

theorem St.drops_env : ∀ (l : List Nat) (s : St) (t : Nat), (s.drops l).env t = (s.env t).kills l
  | [], s, t => rfl
  | a :: l, s, t => by simp only [St.drops]; rw [St.drops_env l]; rfl
theorem St.drops_objs : ∀ (l : List Nat) (s : St) (i : Nat), (s.drops l).objs i = if i ∈ l then .none else (s.objs i).kills l
  | [], s, i => by simp [St.drops]; rfl
  | a :: l, s, i => by
    simp only [St.drops]
    rw [St.drops_objs l]
    by_cases h1 : i ∈ l
    · simp [h1]
    · by_cases h2 : i = a
      · subst h2
        have e : (s.drop i).objs i = .none := by simp [St.drop, St.renew, upd]
        rw [if_neg h1, e, Obj.none_kills]; simp
      · have e : (s.drop a).objs i = (s.objs i).kill a := by simp [St.drop, St.renew, upd, h2]
        rw [if_neg h1, e, if_neg (by simp [h1, h2])]; rfl

section
variable {g : Ghost} {s : St} {a : Act} {w : World} {L : Lay}

theorem good_lt (h : Repr g s a w L) {b : Nat} (hg : Good g s.objs L w b) : b < w.heap.size := by
  rcases hg.1 with h1 | h1
  · have := h.g0 b h1; have := h.below.size; omega
  · exact h1.2

/-- A step that turns the objects of Ch, gives away those of ids, and writes only in their blocks (X). -/
theorem Repr.turn (h : Repr g s a w L) (ids : List Nat) (Ch : Nat → Prop) {objs' : Nat → Obj} {w' : World} {L' : Lay} {X : Nat → Prop}
    (hoff : Off X w w') (hX : ∀ q, X q → ∃ i, (Ch i ∨ i ∈ ids) ∧ s.objs i ≠ .none ∧ L.fp i q)
    (same : ∀ i, ¬ Ch i → objs' i = (if i ∈ ids then .none else (s.objs i).kills ids) ∧ L'.root i = L.root i ∧ L'.sub i = L.sub i)
    (origin : ∀ i b, Ch i → objs' i ≠ .none → L'.fp i b → (∃ i0, (Ch i0 ∨ i0 ∈ ids) ∧ s.objs i0 ≠ .none ∧ L.fp i0 b) ∨ (w.heap.size ≤ b ∧ b < w'.heap.size))
    (injCh : ∀ i j b, Ch i → Ch j → objs' i ≠ .none → objs' j ≠ .none → L'.fp i b → L'.fp j b → i = j)
    (apartCh : ∀ i b, Ch i → objs' i ≠ .none → L'.root i = some b → ¬ L'.sub i b)
    (likeCh : ∀ i, Ch i → i ∉ ids → s.objs i ≠ .none → (s.objs i).like (objs' i) ∧ L'.root i = L.root i)
    (subsCh : ∀ i k v rows, Ch i → i ∉ ids → s.objs i = .tr k v rows → objs' i ≠ .tr k v rows)
    (ok : ∀ G', Keeps w w' (Good g s.objs L w) G' (dropsO s.objs ids) objs' L L' → ∀ i, Ch i → ObjOk w' G' objs' L' (L'.sub i) (L'.root i) (objs' i)) :
    Repr g ⟨fun t => (s.env t).kills ids, objs'⟩ a w' L' := by
  have live : ∀ i, ¬ Ch i → objs' i ≠ .none → i ∉ ids ∧ s.objs i ≠ .none := by
    intro i hi hl
    rw [(same i hi).1] at hl
    by_cases hm : i ∈ ids
    · rw [if_pos hm] at hl; exact absurd rfl hl
    · rw [if_neg hm] at hl; exact ⟨hm, (Obj.kills_none ids _).1 hl⟩
  have fps : ∀ i b, ¬ Ch i → (L'.fp i b ↔ L.fp i b) := by
    intro i b hi
    obtain ⟨_, e1, e2⟩ := same i hi
    unfold Lay.fp; rw [e1, e2]
  have noX : ∀ i b, ¬ Ch i → i ∉ ids → s.objs i ≠ .none → L.fp i b → ¬ X b := by
    intro i b hi hm hl hf hx
    obtain ⟨i0, h1, h2, h3⟩ := hX b hx
    have := h.inj i0 i b h2 hl h3 hf
    subst this
    rcases h1 with h1 | h1
    · exact hi h1
    · exact hm h1
  have goodX : ∀ b, Good g s.objs L w b → ¬ X b := by
    intro b hg hx
    obtain ⟨i0, h1, h2, h3⟩ := hX b hx
    exact hg.2 i0 h2 h3
  have K : Keeps w w' (Good g s.objs L w) (Good g objs' L' w') (dropsO s.objs ids) objs' L L' := by
    refine ⟨fun b hg => ⟨?_, fun i hi hf => ?_⟩, fun ad u hg hc => ?_, fun i hi => ?_, fun i hi b arr e h1 h2 => ?_, fun i k v rows h1 h2 b hb => ?_⟩
    · rcases hg.1 with h1 | h1
      · exact .inl h1
      · exact .inr ⟨h1.1, by have := hoff.size; omega⟩
    · by_cases hc : Ch i
      · rcases origin i b hc hi hf with ⟨i0, _, h2, h3⟩ | h2
        · exact hg.2 i0 h2 h3
        · have := good_lt h hg; omega
      · exact hg.2 i (live i hc hi).2 ((fps i b hc).1 hf)
    · rw [World.cell?_of_block (hoff.block ad.block (good_lt h hg) (goodX _ hg))]; exact hc
    · unfold dropsO at hi ⊢
      by_cases hm : i ∈ ids
      · rw [if_pos hm] at hi; exact absurd rfl hi
      · rw [if_neg hm] at hi ⊢
        by_cases hc : Ch i
        · exact likeCh i hc hm hi
        · obtain ⟨e1, e2, e3⟩ := same i hc
          rw [e1, if_neg hm]
          exact ⟨Obj.kills_like ids _, e2⟩
    · exact hoff.any h2
    · unfold dropsO at h1
      by_cases hm : i ∈ ids
      · rw [if_pos hm] at h1; cases h1
      · rw [if_neg hm] at h1
        by_cases hc : Ch i
        · exact absurd h2 (subsCh i k v rows hc hm h1)
        · have hl : s.objs i ≠ .none := by rw [h1]; simp
          exact hoff.block b (h.new i b hl (.inl hb)).2 (noX i b hc hm hl (.inl hb))
  refine ⟨h.size, h.small, h.defers, h.below.then hoff (fun q hq => ?_), h.g0, h.f0, h.g0f, fun t => (RV.kills ids (h.env t)).keep K, fun i => ?_, fun i b hi hf => ?_, fun i j b hi hj hfi hfj => ?_, fun i b hi hr => ?_⟩
  · obtain ⟨i0, _, h2, h3⟩ := hX q hq
    exact (h.new i0 q h2 h3).1
  · show ObjOk w' (Good g objs' L' w') objs' L' (L'.sub i) (L'.root i) (objs' i)
    by_cases hc : Ch i
    · exact ok _ K i hc
    · obtain ⟨e1, e2, e3⟩ := same i hc
      rw [e1, e2, e3]
      by_cases hm : i ∈ ids
      · rw [if_pos hm]; trivial
      · rw [if_neg hm]
        refine (ObjOk.kills ids (h.objs i)).keep K (fun q hq hl => ?_) (fun q hq hl => ?_)
        · have hl := (Obj.kills_none ids _).1 hl
          exact hoff.block q (h.new i q hl (.inl hq)).2 (noX i q hc hm hl (.inl hq))
        · have hl := (Obj.kills_none ids _).1 hl
          exact hoff.block q (h.new i q hl (.inr hq)).2 (noX i q hc hm hl (.inr hq))
  · by_cases hc : Ch i
    · rcases origin i b hc hi hf with ⟨i0, _, h2, h3⟩ | h2
      · have := h.new i0 b h2 h3
        exact ⟨this.1, by have := hoff.size; omega⟩
      · exact ⟨.inr (by have := h.below.size; omega), h2.2⟩
    · have := h.new i b (live i hc hi).2 ((fps i b hc).1 hf)
      exact ⟨this.1, by have := hoff.size; omega⟩
  · have mixed : ∀ i j, Ch i → ¬ Ch j → objs' i ≠ .none → objs' j ≠ .none → L'.fp i b → L'.fp j b → False := by
      intro i j hc hj hi hj' hfi hfj
      obtain ⟨hm, hl⟩ := live j hj hj'
      have hfj := (fps j b hj).1 hfj
      rcases origin i b hc hi hfi with ⟨i0, h1, h2, h3⟩ | h2
      · have := h.inj i0 j b h2 hl h3 hfj
        subst this
        rcases h1 with h1 | h1
        · exact hj h1
        · exact hm h1
      · have := (h.new j b hl hfj).2; omega
    by_cases hci : Ch i <;> by_cases hcj : Ch j
    · exact injCh i j b hci hcj hi hj hfi hfj
    · exact (mixed i j hci hcj hi hj hfi hfj).elim
    · exact (mixed j i hcj hci hj hi hfj hfi).elim
    · exact h.inj i j b (live i hci hi).2 (live j hcj hj).2 ((fps i b hci).1 hfi) ((fps j b hcj).1 hfj)
  · by_cases hc : Ch i
    · exact apartCh i b hc hi hr
    · obtain ⟨_, e2, e3⟩ := same i hc
      rw [e3]
      rw [e2] at hr
      exact h.apart i b (live i hc hi).2 hr

theorem AV.kills_nil (x : AV) : x.kills [] = x := rfl
theorem Obj.kills_nil (o : Obj) : o.kills [] = o := rfl

/-- A step that turns one object and writes only in its block. -/
theorem Repr.turn1 (h : Repr g s a w L) (id : Nat) {o' : Obj} {w' : World} {L' : Lay} {X : Nat → Prop} (hlive : s.objs id ≠ .none)
    (hoff : Off X w w') (hX : ∀ q, X q → L.fp id q)
    (same : ∀ i, i ≠ id → L'.root i = L.root i ∧ L'.sub i = L.sub i)
    (hroot : L'.root id = L.root id) (hsub : ∀ b, L'.sub id b → L.sub id b)
    (hlike : (s.objs id).like o')
    (hne : ∀ k v rows, s.objs id = .tr k v rows → o' ≠ .tr k v rows)
    (ok : ∀ G' O', Keeps w w' (Good g s.objs L w) G' s.objs O' L L' → ObjOk w' G' O' L' (L'.sub id) (L'.root id) o') :
    Repr g (s.setOb id o') a w' L' := by
  have hO : ∀ i, upd id o' s.objs i = if i = id then o' else s.objs i := fun i => rfl
  refine h.turn [] (fun i => i = id) hoff (fun q hq => ⟨id, .inl rfl, hlive, hX q hq⟩) (fun i hi => ?_) (fun i b hi _ hf => ?_) (fun i j b hi hj _ _ _ _ => hi.trans hj.symm) (fun i b hi _ hr => ?_) (fun i hi _ _ => ?_) (fun i k v rows hi _ hk => ?_) (fun G' K i hi => ?_)
  · obtain ⟨e1, e2⟩ := same i hi
    exact ⟨by simp [hO, hi, Obj.kills_nil], e1, e2⟩
  · subst hi
    refine .inl ⟨i, .inl rfl, hlive, ?_⟩
    rcases hf with hf | hf
    · exact .inl (by rw [← hroot]; exact hf)
    · exact .inr (hsub b hf)
  · subst hi
    rw [hroot] at hr
    exact fun hs => h.apart i b hlive hr (hsub b hs)
  · subst hi
    rw [hO, if_pos rfl]
    exact ⟨hlike, hroot⟩
  · subst hi
    rw [hO, if_pos rfl]
    exact hne k v rows hk
  · subst hi
    rw [dropsO_nil] at K
    rw [hO, if_pos rfl]
    exact ok _ _ K

theorem keeps_drew (G : Nat → Prop) (O : Nat → Obj) (blk : Nat → Option Nat) : Keeps w w.drew G G O O blk blk :=
  ⟨fun _ h => h, fun _ _ _ h => h, fun _ _ => ⟨Obj.like_refl _, rfl⟩, fun _ _ _ arr _ _ h => ⟨arr, h, rfl⟩, fun _ _ _ _ _ _ _ _ => rfl⟩
theorem Repr.drew (h : Repr g s a w L) : Repr g s a w.drew L :=
  ⟨h.size, h.small, h.defers, h.below.drew, h.g0, h.f0, h.g0f, fun t => (h.env t).keep (keeps_drew _ _ _), fun i => (h.objs i).keep (keeps_drew _ _ _) (fun _ _ _ => rfl) (fun _ _ _ => rfl), h.new, h.inj, h.apart⟩

theorem off_setRow (w : World) (b : Nat) (arr arr' : Array Value) (e : TypeId) (hh : w.heap[b]? = some (.cells arr e (0, 0))) (hs : arr'.size = arr.size) : Off (fun q => q = b) w (w.setRow b arr') :=
  ⟨rfl, rfl, rfl, by rw [size_setRow]; exact Nat.le_refl _, fun k _ hk => setRow_other w b k arr' hk, fun k arr2 e2 hk h2 => by
    subst hk
    rw [hh] at h2; cases h2
    exact ⟨arr', setRow_heap w k arr arr' e (0, 0) hh, hs⟩⟩

theorem Repr.setRow (h : Repr g s a w L) {id b : Nat} {arr arr' : Array Value} {e : TypeId} {o' : Obj} (hlive : s.ob id ≠ .none) (hb : L id = some b) (hh : w.heap[b]? = some (.cells arr e (0, 0))) (hs : arr'.size = arr.size)
    (hl : (s.ob id).like o') (hne : ∀ k v rows, s.ob id = .tr k v rows → o' ≠ .tr k v rows)
    (ok : ∀ w' G' O', Keeps w w' (Good g s.objs L w) G' s.objs O' L L → w'.heap[b]? = some (.cells arr' e (0, 0)) → (∀ x, L.sub id x → w'.heap[x]? = w.heap[x]?) → ObjOk w' G' O' L (L.sub id) (some b) o') :
    Repr g (s.setOb id o') a (w.setRow b arr') L := by
  have hset := setRow_heap w b arr arr' e (0, 0) hh
  refine h.turn1 id hlive (off_setRow w b arr arr' e hh hs) (fun q hq => .inl (by rw [hq]; exact hb)) (fun _ _ => ⟨rfl, rfl⟩) rfl (fun _ h => h) hl hne (fun G' O' K => ?_)
  · rw [show L.root id = some b from hb]
    refine ok _ _ _ K hset fun x hx => setRow_other w b x arr' ?_
    rintro rfl
    exact h.apart id x hlive hb hx

/-- A new block, and the object that lies in it. -/
theorem Repr.alloc (h : Repr g s a w L) {d : Nat} {arr : Array Value} {e : TypeId} {o' : Obj} (hd : s.ob d = .none)
    (ok : ∀ w' G' O' blk', Keeps w w' (Good g s.objs L w) G' s.objs O' L blk' → w'.heap[w.heap.size]? = some (.cells arr e (0, 0)) → ObjOk w' G' O' blk' noF (some w.heap.size) o') :
    Repr g ⟨s.env, upd d o' s.objs⟩ a (w.alloc (.cells arr e)) (L.upd d (some w.heap.size) noF) := by
  have hO : ∀ i, upd d o' s.objs i = if i = d then o' else s.objs i := fun i => rfl
  have hd' : s.objs d = .none := hd
  have hoff : Off noF w (w.alloc (.cells arr e)) := (Off.refl noF w).alloc _
  refine h.turn [] (fun i => i = d) hoff (fun q hq => hq.elim) (fun i hi => ?_) (fun i b hi _ hf => ?_) (fun i j b hi hj _ _ _ _ => hi.trans hj.symm) (fun i b hi _ hr => ?_) (fun i hi _ hl => ?_) (fun i k v rows hi _ hk => ?_) (fun G' K i hi => ?_)
  · exact ⟨by simp [hO, hi, Obj.kills_nil], by rw [Lay.upd_root, if_neg hi], by rw [Lay.upd_sub, if_neg hi]⟩
  · subst hi
    rw [Lay.upd_fp, if_pos rfl] at hf
    rcases hf with hf | hf
    · cases hf; exact .inr ⟨Nat.le_refl _, by simp⟩
    · exact hf.elim
  · subst hi
    rw [Lay.upd_sub, if_pos rfl]; exact id
  · subst hi; exact absurd hd' hl
  · subst hi; rw [hd'] at hk; cases hk
  · subst hi
    rw [dropsO_nil] at K
    rw [hO, if_pos rfl, Lay.upd_sub, if_pos rfl, Lay.upd_root, if_pos rfl]
    exact ok _ _ _ _ K (heap_alloc_new w _)
end

end Go.Proofs.Ytenfgllkjgfjpaa
