/- The abstract machine, part 12: append. -/
import Derived.Test.YtenfgllkjgfjpaaCore11
set_option linter.all false
namespace Go.Proofs.Ytenfgllkjgfjpaa
open Go.RowKit

def dropO (O : Nat → Obj) (id i : Nat) : Obj := if i = id then .none else O i

section
variable {w : World} {G : Nat → Prop} {O : Nat → Obj} {blk : Nat → Option Nat} {v : Value} {x : AV} {id : Nat}
theorem RV1.drop (h : RV1 w G O blk v x) (hf : x.free1 id = true) : RV1 w G (dropO O id) blk v x := by
  cases x with
  | box i off =>
    obtain ⟨b, cells, ho, r⟩ := h
    have : i ≠ id := by simpa [AV.free1] using hf
    exact ⟨b, cells, by rw [dropO, if_neg this]; exact ho, r⟩
  | row i k n off =>
    obtain ⟨b, cells, ho, r⟩ := h
    have : i ≠ id := by simpa [AV.free1] using hf
    exact ⟨b, cells, by rw [dropO, if_neg this]; exact ho, r⟩
  | own i k n =>
    obtain ⟨rows, ho, r⟩ := h
    have : i ≠ id := by simpa [AV.free1] using hf
    exact ⟨rows, by rw [dropO, if_neg this]; exact ho, r⟩
  | _ => exact h
theorem RV1.kill (h : RV1 w G O blk v x) : RV1 w G (dropO O id) blk v (x.kill1 id) := by
  unfold AV.kill1
  split
  · exact h.drop ‹_›
  · trivial
theorem RV2.drop (h : RV2 w G O blk v x) (hf : x.free2 id = true) : RV2 w G (dropO O id) blk v x := by
  cases x
  case agg l =>
    obtain ⟨arr, e, hs, hx⟩ := h
    exact ⟨arr, e, hs, fun j x hj => let ⟨u, hu, hr⟩ := hx j x hj; ⟨u, hu, hr.drop (List.all_eq_true.1 hf x (List.mem_of_getElem? hj))⟩⟩
  all_goals (simp only [RV2] at h ⊢; exact RV1.drop h hf)
theorem RV2.kill (h : RV2 w G O blk v x) : RV2 w G (dropO O id) blk v (x.kill id) := by
  cases x
  case agg l =>
    obtain ⟨arr, e, hs, hx⟩ := h
    refine ⟨arr, e, by simpa using hs, fun j x hj => ?_⟩
    rw [List.getElem?_map, Option.map_eq_some_iff] at hj
    obtain ⟨y, hy, rfl⟩ := hj
    obtain ⟨u, hu, hr⟩ := hx j y hy
    exact ⟨u, hu, hr.kill⟩
  case tup l => exact (show False from h).elim
  all_goals
    (simp only [RV2] at h
     have := RV1.kill (id := id) h
     simp only [AV.kill]
     revert this
     unfold AV.kill1
     split
     · exact fun this => this
     · intro _; trivial)
theorem RV.kill (h : RV w G O blk v x) : RV w G (dropO O id) blk v (x.kill id) := by
  cases x
  case tup l =>
    simp only [AV.kill]
    split
    · rename_i hall
      obtain ⟨arr, e, hs, hx⟩ := h
      refine ⟨arr, e, hs, fun j x hj => ?_⟩
      obtain ⟨u, hu, hr⟩ := hx j x hj
      exact ⟨u, hu, hr.drop (List.all_eq_true.1 hall x (List.mem_of_getElem? hj))⟩
    · trivial
  case agg l => exact RV2.kill (id := id) (x := .agg l) h
  all_goals
    (simp only [RV, RV2] at h
     have := RV1.kill (id := id) h
     simp only [AV.kill]
     revert this
     unfold AV.kill1
     split
     · exact fun this => this
     · intro _; trivial)
theorem ObjOk.kill {b : Option Nat} {o : Obj} (h : ObjOk w G O blk b o) : ObjOk w G (dropO O id) blk b (o.kill id) := by
  cases o with
  | none => trivial
  | box cells =>
    obtain ⟨q, arr, e, e1, e2, e3, e4⟩ := h
    refine ⟨q, arr, e, e1, e2, by simpa using e3, fun j x hj => ?_⟩
    rw [List.getElem?_map, Option.map_eq_some_iff] at hj
    obtain ⟨y, hy, rfl⟩ := hj
    obtain ⟨u, hu, hr⟩ := e4 j y hy
    exact ⟨u, hu, hr.kill⟩
  | row k rows => exact h
end

theorem look_map {α : Type} (d : α) (f : α → α) (hf : f d = d) : ∀ (l : List (Nat × α)) (n : Nat), look d (l.map fun p => (p.1, f p.2)) n = f (look d l n)
  | [], n => hf.symm
  | (k, v) :: l, n => by
    simp only [List.map_cons, look]
    split
    · rfl
    · exact look_map d f hf l n

theorem Obj.kill_none (id : Nat) (o : Obj) : o.kill id ≠ .none ↔ o ≠ .none := by cases o <;> simp [Obj.kill]
theorem Obj.kill_like (id : Nat) (o : Obj) : o.like (o.kill id) := by cases o <;> simp [Obj.kill, Obj.like]

section
variable {g : Ghost} {s : St} {a : Act} {w : World} {blk : Nat → Option Nat}

/-- The object id is laid anew (in its old block, or in a new one); what pointed to it is forgotten. -/
theorem Repr.renew (h : Repr g s a w blk) {id : Nat} (hlive : s.ob id ≠ .none) {o' : Obj} {w' : World} {blk' : Nat → Option Nat} (hbelow : Below g.w0.heap.size g.w0 w') (hsz : w.heap.size ≤ w'.heap.size)
    (hcell : ∀ b0, b0 < w.heap.size → blk id ≠ some b0 → w'.heap[b0]? = w.heap[b0]?) (hblk : ∀ i, i ≠ id → blk' i = blk i) (hid : blk' id = blk id ∨ ∃ b, blk' id = some b ∧ w.heap.size ≤ b ∧ b < w'.heap.size)
    (ok : ∀ G' O', Keeps w w' (Good g s.objs blk w) G' (dropO s.objs id) O' blk blk' → ObjOk w' G' O' blk' (blk' id) o') :
    Repr g (s.renew id o') a w' blk' := by
  have hO : ∀ i, (s.renew id o').objs i = if i = id then o' else (s.objs i).kill id := by
    intro i
    rfl
  have hlt : ∀ b0, Good g s.objs blk w b0 → b0 < w.heap.size := fun b0 hg => by
    rcases hg.1 with h1 | h1
    · have := h.g0 b0 h1; have := h.below.size; omega
    · exact h1.2
  have hlv : ∀ i, i ≠ id → (s.renew id o').objs i ≠ .none → s.objs i ≠ .none := by
    intro i hi h1
    rw [hO, if_neg hi] at h1
    exact (Obj.kill_none id _).1 h1
  have K : Keeps w w' (Good g s.objs blk w) (Good g (s.renew id o').objs blk' w') (dropO s.objs id) (s.renew id o').objs blk blk' := by
    refine ⟨fun b0 hg => ⟨?_, fun i hi => ?_⟩, fun ad u hg hc => ?_, fun i hi => ?_, fun i hi b2 arr2 e2 h1 h2 => ?_⟩
    · rcases hg.1 with h1 | h1
      · exact .inl h1
      · exact .inr ⟨h1.1, by omega⟩
    · by_cases e : i = id
      · subst e
        rcases hid with e2 | ⟨b, e2, h1, h2⟩
        · rw [e2]; exact hg.2 _ hlive
        · rw [e2]; intro e3; cases e3; have := hlt b0 hg; omega
      · rw [hblk i e]; exact hg.2 i (hlv i e hi)
    · rw [World.cell?_of_block (hcell ad.block (hlt _ hg) (hg.2 _ hlive))]; exact hc
    · by_cases e : i = id
      · rw [dropO, if_pos e] at hi; exact absurd rfl hi
      · rw [dropO, if_neg e, hO, if_neg e]
        exact ⟨Obj.kill_like _ _, hblk i e⟩
    · by_cases e : i = id
      · rw [dropO, if_pos e] at hi; exact absurd rfl hi
      · rw [dropO, if_neg e] at hi
        have hne : blk id ≠ some b2 := fun e3 => e (h.inj i id b2 hi hlive h1 e3)
        exact ⟨arr2, by rw [hcell b2 (h.new i b2 hi h1).2 hne]; exact h2, rfl⟩
  refine ⟨h.size, h.defers, hbelow, h.g0, fun t => ?_, fun i => ?_, fun i b0 hi hb0 => ?_, fun i j b0 hi hj hbi hbj => ?_⟩
  · exact (RV.kill (h.env t)).keep K
  · rw [hO]
    split
    · rename_i e; subst e; exact ok _ _ K
    · rename_i e
      rw [hblk i e]
      refine ((h.objs i).kill (id := id)).keep K fun q hq hne => ?_
      have hl := (Obj.kill_none id _).1 hne
      exact hcell q (h.new i q hl hq).2 fun e3 => e (h.inj i id q hl hlive hq e3)
  · by_cases e : i = id
    · subst e
      rcases hid with e2 | ⟨b, e2, h1, h2⟩
      · rw [e2] at hb0
        have := h.new _ b0 hlive hb0
        exact ⟨this.1, by omega⟩
      · rw [e2] at hb0; cases hb0
        have := h.below.size
        exact ⟨by omega, h2⟩
    · rw [hblk i e] at hb0
      have := h.new i b0 (hlv i e hi) hb0
      exact ⟨this.1, by omega⟩
  · by_cases e1 : i = id <;> by_cases e2 : j = id
    · rw [e1, e2]
    · subst e1
      rw [hblk j e2] at hbj
      rcases hid with e3 | ⟨b, e3, h1, h2⟩
      · rw [e3] at hbi; exact h.inj _ _ b0 hlive (hlv j e2 hj) hbi hbj
      · rw [e3] at hbi; cases hbi
        have := (h.new j b0 (hlv j e2 hj) hbj).2; omega
    · subst e2
      rw [hblk i e1] at hbi
      rcases hid with e3 | ⟨b, e3, h1, h2⟩
      · rw [e3] at hbj; exact h.inj _ _ b0 (hlv i e1 hi) hlive hbi hbj
      · rw [e3] at hbj; cases hbj
        have := (h.new i b0 (hlv i e1 hi) hbi).2; omega
    · rw [hblk i e1] at hbi; rw [hblk j e2] at hbj
      exact h.inj i j b0 (hlv i e1 hi) (hlv j e2 hj) hbi hbj

/-- An own slice that is nil: there is no block yet. -/
theorem Repr.virt (h : Repr g s a w blk) {d k : Nat} (hd : s.ob d = .none) :
    Repr g ⟨s.env, upd d (.row k []) s.objs⟩ a w (fun i => if i = d then none else blk i) := by
  have hO : ∀ i, upd d (.row k []) s.objs i = if i = d then .row k [] else s.objs i := fun i => rfl
  have hd' : s.objs d = .none := hd
  have K : Keeps w w (Good g s.objs blk w) (Good g (upd d (.row k []) s.objs) (fun i => if i = d then none else blk i) w) s.objs (upd d (.row k []) s.objs) blk (fun i => if i = d then none else blk i) := by
    refine ⟨fun b0 hg => ⟨hg.1, fun i hi => ?_⟩, fun ad u hg hc => hc, fun i hi => ?_, fun i hi b2 arr2 e2 h1 h2 => ⟨arr2, h2, rfl⟩⟩
    · by_cases e1 : i = d
      · simp [e1]
      · simp only [e1, if_false]; rw [hO, if_neg e1] at hi; exact hg.2 i hi
    · have e1 : i ≠ d := fun e1 => hi (by rw [e1]; exact hd')
      rw [hO, if_neg e1, if_neg e1]
      exact ⟨Obj.like_refl _, rfl⟩
  refine ⟨h.size, h.defers, h.below, h.g0, fun t => (h.env t).keep K, fun i => ?_, fun i b0 hi hb0 => ?_, fun i j b0 hi hj hbi hbj => ?_⟩
  · by_cases e1 : i = d
    · simp only [e1, if_true, upd_apply]; exact .inl ⟨rfl, rfl⟩
    · simp only [e1, if_false, upd_apply]; exact (h.objs i).keep K fun q _ _ => rfl
  · by_cases e1 : i = d
    · simp [e1] at hb0
    · simp only [e1, if_false] at hb0; replace hi : upd d (.row k []) s.objs i ≠ .none := hi; rw [hO, if_neg e1] at hi; exact h.new i b0 hi hb0
  · by_cases e1 : i = d
    · simp [e1] at hbi
    · by_cases e2 : j = d
      · simp [e2] at hbj
      · simp only [e1, e2, if_false] at hbi hbj
        replace hi : upd d (.row k []) s.objs i ≠ .none := hi; rw [hO, if_neg e1] at hi; replace hj : upd d (.row k []) s.objs j ≠ .none := hj; rw [hO, if_neg e2] at hj
        exact h.inj i j b0 hi hj hbi hbj

theorem rd_list {G : Nat → Prop} {ad : Addr} {len cap k : Nat} {rows : List (List C)} (h : Rd w G (.slice (some ad) len cap) (.sl k rows)) :
    ∃ news : List Value, news.length = len * k ∧ (∀ j u, news[j]? = some u → w.cell? (ad.add j) = some u) ∧
      ∀ (i : Nat) (r : List C) (j : Nat) (c : C), rows[i]? = some r → r[j]? = some c → ∃ u, news[i * k + j]? = some u ∧ Rd w G u c := by
  cases h with
  | sl vals e1 e2 e3 e4 e5 e6 e7 =>
    have key : ∀ (i : Nat) (r : List C) (j : Nat) (c : C), rows[i]? = some r → r[j]? = some c → w.cell? (ad.add (i * k + j)) = some (vals i j) := by
      intro i r j c hr hc
      obtain ⟨ad', e, _, hcell⟩ := e6 i r hr j c hc
      cases e; exact hcell
    have bound : ∀ (i : Nat) (r : List C) (j : Nat) (c : C), rows[i]? = some r → r[j]? = some c → i * k + j < len * k := by
      intro i r j c hr hc
      have h1 : i < rows.length := (List.getElem?_eq_some_iff.1 hr).1
      have h2 : j < k := by rw [← e4 r (List.mem_of_getElem? hr)]; exact (List.getElem?_eq_some_iff.1 hc).1
      have h3 : (i + 1) * k ≤ len * k := Nat.mul_le_mul_right _ (by omega)
      rw [Nat.add_mul, Nat.one_mul] at h3
      omega
    refine ⟨(List.range (len * k)).map fun j => (w.cell? (ad.add j)).getD undef, by simp, fun j u hu => ?_, fun i r j c hr hc => ?_⟩
    · have hj : j < len * k := by have := (List.getElem?_eq_some_iff.1 hu).1; simpa using this
      have hk : 0 < k := by rcases Nat.eq_zero_or_pos k with e | e; · subst e; omega
                            · exact e
      have hi : j / k < rows.length := by rw [e1]; exact Nat.div_lt_of_lt_mul (by rw [Nat.mul_comm]; exact hj)
      have hr := List.getElem?_eq_getElem hi
      have hm : j % k < (rows[j / k]).length := by rw [e4 _ (List.getElem_mem hi)]; exact Nat.mod_lt _ hk
      have := key _ _ (j % k) _ hr (List.getElem?_eq_getElem hm)
      rw [show j / k * k + j % k = j from by rw [Nat.mul_comm]; exact Nat.div_add_mod j k] at this
      simp only [List.getElem?_map, List.getElem?_range hj, Option.map_some, this, Option.getD_some, Option.some.injEq] at hu
      rw [this, hu]
    · have := key i r j c hr hc
      refine ⟨vals i j, ?_, e7 i r hr j c hc⟩
      simp [List.getElem?_range (bound i r j c hr hc), this]

/-- The source of an append: a slice that reads as the rows. -/
theorem src_ok (h : Repr g s a w blk) {v : Value} {y : AV} {k : Nat} {new : List (List C)} (hv : RVs g s w blk v y) (hs : srcRows s k y = some new) :
    ∃ A c, v = .slice A new.length c ∧ (A = none → new = []) ∧ (∀ r, r ∈ new → r.length = k) ∧ ∀ ad, A = some ad → ∃ news : List Value, news.length = new.length * k ∧ (∀ j u, news[j]? = some u → w.cell? (ad.add j) = some u) ∧
      ∀ (i : Nat) (r : List C) (j : Nat) (c : C), new[i]? = some r → r[j]? = some c → ∃ u, news[i * k + j]? = some u ∧ Rd w (Good g s.objs blk w) u c := by
  have rd : ∀ rows, Rd w (Good g s.objs blk w) v (.sl k rows) → new = rows → ∃ A c, v = .slice A new.length c ∧ (A = none → new = []) ∧ (∀ r, r ∈ new → r.length = k) ∧ ∀ ad, A = some ad → ∃ news : List Value, news.length = new.length * k ∧ (∀ j u, news[j]? = some u → w.cell? (ad.add j) = some u) ∧
      ∀ (i : Nat) (r : List C) (j : Nat) (c : C), new[i]? = some r → r[j]? = some c → ∃ u, news[i * k + j]? = some u ∧ Rd w (Good g s.objs blk w) u c := by
    intro rows hr e
    subst e
    have hr' := hr
    cases hr with
    | sl vals e1 e2 e3 e4 e5 e6 e7 =>
      rename_i A len cap
      subst e1
      refine ⟨A, cap, rfl, fun e => ?_, e4, fun ad e => ?_⟩
      · subst e
        have : ¬ 0 < new.length := fun hl => by simpa using e5 hl
        exact List.eq_nil_of_length_eq_zero (by omega)
      · subst e; exact rd_list hr'
  unfold srcRows at hs
  split at hs
  · rename_i k' rows
    split at hs
    · rename_i e; subst e; cases hs; exact rd _ hv.c rfl
    · cases hs
  · rename_i k' rows
    split at hs
    · rename_i e; subst e; cases hs; obtain ⟨_, _, _, hr⟩ := hv; exact rd _ hr rfl
    · cases hs
  · rename_i id k' n
    split at hs
    · rename_i k2 rows hO
      split at hs
      · rename_i e; subst e; cases hs
        obtain ⟨rows', hO', hn, hval⟩ := hv
        have e3 : k2 = k' ∧ rows = rows' := by
          have : s.ob id = .row k' rows' := hO'
          rw [hO] at this; cases this; exact ⟨rfl, rfl⟩
        obtain ⟨rfl, rfl⟩ := e3
        have hlen : (rows.take n).length = n := by simp; omega
        rcases hval with ⟨hb, rfl, rfl⟩ | ⟨b, cap, arr, e, hb, rfl, h1, h2, h3, h4⟩
        · exact ⟨none, 0, by simp, fun _ => by simp, fun r hr => by simp at hr, fun ad e => by cases e⟩
        · obtain ⟨arr2, e2, r1, r2, r3, r4⟩ := h.row hO hb
          rw [h3] at r1; cases r1
          have hle : n * k2 ≤ arr.size := Nat.le_trans (Nat.mul_le_mul_right _ h1) h4
          refine ⟨some ⟨b, 0, none⟩, cap, by rw [hlen], fun e => (by cases e), fun r hr => r3 r (List.mem_of_mem_take hr), fun ad e => ?_⟩
          cases e
          refine ⟨arr.toList.take (n * k2), by rw [hlen]; simp; omega, fun j u hu => ?_, fun i r j c hr hc => ?_⟩
          · rw [List.getElem?_take] at hu
            split at hu
            · rw [add_lit, Nat.zero_add, cell_of w h3]; simpa using hu
            · cases hu
          · rw [List.getElem?_take] at hr
            split at hr
            · rename_i hin
              obtain ⟨u, hu, hru⟩ := r4 i r j c hr hc
              have hj : j < k2 := by rw [← r3 r (List.mem_of_getElem? hr)]; exact (List.getElem?_eq_some_iff.1 hc).1
              have h5 : (i + 1) * k2 ≤ n * k2 := Nat.mul_le_mul_right _ hin
              rw [Nat.add_mul, Nat.one_mul] at h5
              exact ⟨u, by rw [List.getElem?_take, if_pos (by omega)]; simpa using hu, hru⟩
            · cases hr
      · cases hs
    · cases hs
  · cases hs
    cases hv
    exact ⟨none, 0, rfl, fun _ => rfl, fun r hr => by simp at hr, fun ad e => by cases e⟩
  · cases hs
end

end Go.Proofs.Ytenfgllkjgfjpaa
