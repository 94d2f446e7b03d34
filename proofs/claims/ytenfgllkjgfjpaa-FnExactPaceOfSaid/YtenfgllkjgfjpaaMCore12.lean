/- The abstract machine, part 12: append: what is read, what is laid. -/
import Derived.Test.YtenfgllkjgfjpaaMCore11
set_option linter.all false
namespace Go.Proofs.Ytenfgllkjgfjpaa
open Go.RowKit

theorem look_map {α : Type} (d : α) (f : α → α) (hf : f d = d) : ∀ (l : List (Nat × α)) (n : Nat), look d (l.map fun p => (p.1, f p.2)) n = f (look d l n)
  | [], n => hf.symm
  | (k, v) :: l, n => by
    simp only [List.map_cons, look]
    split
    · rfl
    · exact look_map d f hf l n

/-- A cell of a slice: only read, or owned. -/
def CellR : Bool → World → (Nat → Prop) → Value → C → (Nat → Prop) → Prop
  | true, w, G, u, c, _ => Rd w G u c
  | false, w, G, u, c, F => OT w G u c F
theorem CellR.ot {fl : Bool} {w : World} {G : Nat → Prop} {u : Value} {c : C} {F : Nat → Prop} (h : CellR fl w G u c F) : OT w G u c F := by
  cases fl
  · exact h
  · exact .sh h
theorem CellR.of_rd {fl : Bool} {w : World} {G : Nat → Prop} {u : Value} {c : C} {F : Nat → Prop} (h : Rd w G u c) : CellR fl w G u c F := by
  cases fl
  · exact .sh h
  · exact h
def mkO : Bool → Nat → List (List C) → Obj
  | true, k, r => .row k r
  | false, k, r => .tr k 0 r
theorem mkO_dims (fl : Bool) (k : Nat) (r : List (List C)) : (mkO fl k r).dims = some (k, r.length) := by cases fl <;> rfl

section
variable {g : Ghost} {s : St} {a : Act} {w : World} {blk : Lay}

/-- An own slice that is nil: there is no block yet. -/
theorem Repr.virt (h : Repr g s a w blk) {d k : Nat} (fl : Bool) (hd : s.ob d = .none) :
    Repr g ⟨s.env, upd d (mkO fl k []) s.objs⟩ a w (blk.upd d none noF) := by
  have hO : ∀ i, upd d (mkO fl k []) s.objs i = if i = d then mkO fl k [] else s.objs i := fun i => rfl
  have hd' : s.objs d = .none := hd
  refine h.turn [] (fun i => i = d) (Off.refl noF w) (fun q hq => hq.elim) (fun i hi => ?_) (fun i b hi _ hf => ?_) (fun i j b hi hj _ _ _ _ => hi.trans hj.symm) (fun i b hi _ hr => ?_) (fun i hi _ hl => ?_) (fun i k v rows hi _ hk => ?_) (fun G' K i hi => ?_)
  · exact ⟨by simp [hO, hi, Obj.kills_nil], by rw [Lay.upd_root, if_neg hi], by rw [Lay.upd_sub, if_neg hi]⟩
  · subst hi
    rw [Lay.upd_fp, if_pos rfl] at hf
    rcases hf with hf | hf
    · cases hf
    · exact hf.elim
  · subst hi
    rw [Lay.upd_root, if_pos rfl] at hr; cases hr
  · subst hi; exact absurd hd' hl
  · subst hi; rw [hd'] at hk; cases hk
  · subst hi
    rw [hO, if_pos rfl, Lay.upd_sub, if_pos rfl, Lay.upd_root, if_pos rfl]
    cases fl
    · exact .inl ⟨rfl, rfl⟩
    · exact .inl ⟨rfl, rfl⟩

theorem rd_list {G : Nat → Prop} {ad : Addr} {len cap k : Nat} {rows : List (List C)} (h : Rd w G (.slice (some ad) len cap) (.sl k rows)) :
    ∃ news : List Value, news.length = len * k ∧ (∀ j u, news[j]? = some u → w.cell? (ad.add j) = some u) ∧
      ∀ (i : Nat) (r : List C) (j : Nat) (c : C), rows[i]? = some r → r[j]? = some c → ∃ u, news[i * k + j]? = some u ∧ Rd w G u c := by
  cases h with
  | sl vals e1 e2 e3 e4 e5 e6 e7 =>
    have key : ∀ (i : Nat) (r : List C) (j : Nat) (c : C), rows[i]? = some r → r[j]? = some c → w.cell? (ad.add (i * k + j)) = some (vals i j) := by
      intro i r j c hr hc
      obtain ⟨ad', e, _, hcell⟩ := e6 i r hr j c hc
      cases e; exact hcell
    have bound : ∀ (i : Nat) (r : List C) (j : Nat) (c : C), rows[i]? = some r → r[j]? = some c → i * k + j < len * k := by
      intro i r j c hr hc
      have h1 : i < rows.length := (List.getElem?_eq_some_iff.1 hr).1
      have h2 : j < k := by rw [← e4 r (List.mem_of_getElem? hr)]; exact (List.getElem?_eq_some_iff.1 hc).1
      have h3 : (i + 1) * k ≤ len * k := Nat.mul_le_mul_right _ (by omega)
      rw [Nat.add_mul, Nat.one_mul] at h3
      omega
    refine ⟨(List.range (len * k)).map fun j => (w.cell? (ad.add j)).getD undef, by simp, fun j u hu => ?_, fun i r j c hr hc => ?_⟩
    · have hj : j < len * k := by have := (List.getElem?_eq_some_iff.1 hu).1; simpa using this
      have hk : 0 < k := by rcases Nat.eq_zero_or_pos k with e | e; · subst e; omega
                            · exact e
      have hi : j / k < rows.length := by rw [e1]; exact Nat.div_lt_of_lt_mul (by rw [Nat.mul_comm]; exact hj)
      have hr := List.getElem?_eq_getElem hi
      have hm : j % k < (rows[j / k]).length := by rw [e4 _ (List.getElem_mem hi)]; exact Nat.mod_lt _ hk
      have := key _ _ (j % k) _ hr (List.getElem?_eq_getElem hm)
      rw [show j / k * k + j % k = j from by rw [Nat.mul_comm]; exact Nat.div_add_mod j k] at this
      simp only [List.getElem?_map, List.getElem?_range hj, Option.map_some, this, Option.getD_some, Option.some.injEq] at hu
      rw [this, hu]
    · have := key i r j c hr hc
      refine ⟨vals i j, ?_, e7 i r hr j c hc⟩
      simp [List.getElem?_range (bound i r j c hr hc), this]

/-- A cell of a flat row. -/
theorem row_list (h : Repr g s a w blk) {id k b : Nat} {rows : List (List C)} (hO : s.ob id = .row k rows) (hb : blk id = some b) {lo n : Nat} (hn : lo + n ≤ rows.length) :
    ∃ news : List Value, news.length = ((rows.drop lo).take n).length * k ∧ (∀ j u, news[j]? = some u → w.cell? ((⟨b, lo * k, none⟩ : Addr).add j) = some u) ∧ (∀ r, r ∈ (rows.drop lo).take n → r.length = k) ∧
      ∀ (i : Nat) (r : List C) (j : Nat) (c : C), ((rows.drop lo).take n)[i]? = some r → r[j]? = some c → ∃ u, news[i * k + j]? = some u ∧ Rd w (Good g s.objs blk w) u c := by
  obtain ⟨arr, e, r1, r2, r3, r4⟩ := h.row hO hb
  have hlen : ((rows.drop lo).take n).length = n := by simp; omega
  have hle : (lo + n) * k ≤ rows.length * k := Nat.mul_le_mul_right _ hn
  rw [Nat.add_mul] at hle
  refine ⟨(arr.toList.drop (lo * k)).take (n * k), by rw [hlen]; simp; omega, fun j u hu => ?_, fun r hr => r3 r (List.mem_of_mem_drop (List.mem_of_mem_take hr)), fun i r j c hr hc => ?_⟩
  · rw [List.getElem?_take] at hu
    split at hu
    · rw [List.getElem?_drop] at hu
      rw [add_lit, cell_of w r1]; simpa using hu
    · cases hu
  · rw [List.getElem?_take] at hr
    split at hr
    · rename_i hin
      rw [List.getElem?_drop] at hr
      obtain ⟨u, hu, hru⟩ := r4 _ r j c hr hc
      have hj : j < k := by rw [← r3 r (List.mem_of_getElem? hr)]; exact (List.getElem?_eq_some_iff.1 hc).1
      have h5 : (i + 1) * k ≤ n * k := Nat.mul_le_mul_right _ hin
      rw [Nat.add_mul, Nat.one_mul] at h5
      refine ⟨u, ?_, hru⟩
      rw [List.getElem?_take, if_pos (by omega), List.getElem?_drop]
      rw [show lo * k + (i * k + j) = (lo + i) * k + j by rw [Nat.add_mul]; omega]
      simpa using hu
    · cases hr

/-- What an append reads. -/
def SrcOk (fl : Bool) (w : World) (G : Nat → Prop) (v : Value) (k : Nat) (new : List (List C)) (Fn : Nat → Nat → Nat → Prop) : Prop :=
  ∃ A c, v = .slice A new.length c ∧ (A = none → new = []) ∧ (∀ r, r ∈ new → r.length = k) ∧ ∀ ad, A = some ad → ∃ news : List Value, news.length = new.length * k ∧ (∀ j u, news[j]? = some u → w.cell? (ad.add j) = some u) ∧
      ∀ (i : Nat) (r : List C) (j : Nat) (c : C), new[i]? = some r → r[j]? = some c → ∃ u, news[i * k + j]? = some u ∧ CellR fl w G u c (Fn i j)

/-- The source of an append: a slice that reads as the rows. -/
theorem src_ok (h : Repr g s a w blk) {v : Value} {y : AV} {k : Nat} {new : List (List C)} (hv : RVs g s w blk v y) (hs : srcRows s k y = some new) : SrcOk true w (Good g s.objs blk w) v k new (fun _ _ => noF) := by
  have rd : ∀ rows, Rd w (Good g s.objs blk w) v (.sl k rows) → new = rows → SrcOk true w (Good g s.objs blk w) v k new (fun _ _ => noF) := by
    intro rows hr e
    subst e
    have hr' := hr
    cases hr with
    | sl vals e1 e2 e3 e4 e5 e6 e7 =>
      rename_i A len cap
      subst e1
      refine ⟨A, cap, rfl, fun e => ?_, e4, fun ad e => ?_⟩
      · subst e
        have : ¬ 0 < new.length := fun hl => by simpa using e5 hl
        exact List.eq_nil_of_length_eq_zero (by omega)
      · subst e; exact rd_list hr'
  unfold srcRows at hs
  split at hs
  · rename_i k' rows
    split at hs
    · rename_i e; subst e; cases hs; exact rd _ hv.c rfl
    · cases hs
  · rename_i k' rows
    split at hs
    · rename_i e; subst e; cases hs; obtain ⟨_, _, _, hr⟩ := hv; exact rd _ hr rfl
    · cases hs
  · rename_i id k' n
    split at hs
    · rename_i k2 rows hO
      split at hs
      · rename_i e; subst e; cases hs
        obtain ⟨m, hO', hn, hval⟩ := hv
        have e3 : k2 = k' ∧ rows.length = m := by
          have : (s.ob id).dims = some (k', m) := hO'
          rw [hO] at this; simpa [Obj.dims] using this
        obtain ⟨rfl, rfl⟩ := e3
        have hlen : (rows.take n).length = n := by simp; omega
        rcases hval with ⟨hb, rfl, A0, rfl⟩ | ⟨b, cap, arr, e, hb, rfl, h1, h2, h3, h4⟩
        · exact ⟨A0, 0, by simp, fun _ => by simp, fun r hr => by simp at hr, fun ad e => ⟨[], by simp, fun j u hu => by simp at hu, fun i r j c hr => by simp at hr⟩⟩
        · obtain ⟨news, n1, n2, n3, n4⟩ := row_list h hO hb (lo := 0) (n := n) (by omega)
          simp only [List.drop_zero] at n1 n3 n4
          refine ⟨some ⟨b, 0, none⟩, cap, by rw [hlen], fun e => (by cases e), n3, fun ad e => ?_⟩
          cases e
          exact ⟨news, n1, by simpa using n2, n4⟩
      · cases hs
    · cases hs
  · rename_i id k' lo n
    split at hs
    · rename_i k2 rows hO
      split at hs
      · rename_i e; subst e; cases hs
        obtain ⟨m, A, c, hO', hn, rfl, h1, h2, h3⟩ := hv
        have e3 : k2 = k' ∧ rows.length = m := by
          have : (s.ob id).dims = some (k', m) := hO'
          rw [hO] at this; simpa [Obj.dims] using this
        obtain ⟨rfl, rfl⟩ := e3
        have hlen : ((rows.drop lo).take n).length = n := by simp; omega
        rcases Nat.eq_zero_or_pos n with h0 | h0
        · subst h0
          exact ⟨A, c, by simp, fun _ => by simp, fun r hr => by simp at hr, fun ad e => ⟨[], by simp, fun j u hu => by simp at hu, fun i r j c hr => by simp at hr⟩⟩
        · obtain ⟨b, hb, rfl⟩ := h3 h0
          obtain ⟨news, n1, n2, n3, n4⟩ := row_list h hO hb (lo := lo) (n := n) hn
          refine ⟨_, c, by rw [hlen], fun e => (by cases e), n3, fun ad e => ?_⟩
          cases e
          exact ⟨news, n1, n2, n4⟩
      · cases hs
    · cases hs
  · cases hs
    cases hv
    exact ⟨none, 0, rfl, fun _ => rfl, fun r hr => by simp at hr, fun ad e => by cases e⟩
  · cases hs

/-- The source of an append: a tree of the call's own. -/
theorem srcTr_ok (h : Repr g s a w blk) {v : Value} {y : AV} {k idy : Nat} {new : List (List C)} (hv : RVs g s w blk v y) (hs : srcTr s k y = some (idy, new)) :
    s.objs idy ≠ .none ∧ ∃ Fn : Nat → Nat → Nat → Prop, SrcOk false w (Good g s.objs blk w) v k new Fn ∧ (∀ i j x, Fn i j x → blk.sub idy x) ∧ (∀ i j i' j' x, Fn i j x → Fn i' j' x → i = i' ∧ j = j') := by
  unfold srcTr at hs
  split at hs
  · rename_i id k' n
    split at hs
    · rename_i k2 ver rows hO
      split at hs
      · rename_i e; subst e; cases hs
        refine ⟨by rw [show s.objs idy = _ from hO]; simp, ?_⟩
        obtain ⟨m, hO', hn, hval⟩ := hv
        have e3 : k2 = k' ∧ rows.length = m := by
          have : (s.ob idy).dims = some (k', m) := hO'
          rw [hO] at this; simpa [Obj.dims] using this
        obtain ⟨rfl, rfl⟩ := e3
        have hlen : (rows.take n).length = n := by simp; omega
        rcases hval with ⟨hb, rfl, A0, rfl⟩ | ⟨b, cap, arr, e, hb, rfl, h1, h2, h3, h4⟩
        · exact ⟨fun _ _ => noF, ⟨A0, 0, by simp, fun _ => by simp, fun r hr => by simp at hr, fun ad e => ⟨[], by simp, fun j u hu => by simp at hu, fun i r j c hr => by simp at hr⟩⟩, fun _ _ _ h => h.elim, fun _ _ _ _ _ h => h.elim⟩
        · obtain ⟨arr', e', r1, r2, r3, vals, Fs, r4, r5, r6, r7⟩ := h.tree hO hb
          rw [h3] at r1; cases r1
          have hle : n * k2 ≤ rows.length * k2 := Nat.mul_le_mul_right _ hn
          refine ⟨Fs, ⟨some ⟨b, 0, none⟩, cap, by rw [hlen], fun e => (by cases e), fun r hr => r3 r (List.mem_of_mem_take hr), fun ad e => ?_⟩, fun i j x hx => (r4 i j x hx).1, r5⟩
          cases e
          refine ⟨arr.toList.take (n * k2), by rw [hlen]; simp; omega, fun j u hu => ?_, fun i r j c hr hc => ?_⟩
          · rw [List.getElem?_take] at hu
            split at hu
            · rw [add_lit, Nat.zero_add, cell_of w h3]; simpa using hu
            · cases hu
          · rw [List.getElem?_take] at hr
            split at hr
            · rename_i hin
              have hj : j < k2 := by rw [← r3 r (List.mem_of_getElem? hr)]; exact (List.getElem?_eq_some_iff.1 hc).1
              have h5 : (i + 1) * k2 ≤ n * k2 := Nat.mul_le_mul_right _ hin
              rw [Nat.add_mul, Nat.one_mul] at h5
              exact ⟨_, by rw [List.getElem?_take, if_pos (by omega)]; simpa using r6 i r hr j c hc, r7 i r hr j c hc⟩
            · cases hr
      · cases hs
    · cases hs
  · cases hs
end

end Go.Proofs.Ytenfgllkjgfjpaa
