/- Contracts of functions of this seat: what each answers, as plain Lean. -/
import Derived.Test.YtfmgadchjiplmaaMT22
import Derived.Test.YtfmgadchjiplmaaMT10
set_option linter.all false
namespace Go.Proofs.Ytfmgadchjiplmaa
open Go.RowKit

/-! Settled: what is posted settles. -/
theorem bAdd_sum {b : List Int} {i d v : Int} (h : b[i.toNat]? = some v) : (bAdd b i d).sum = b.sum + d := by
  unfold bAdd; rw [sum_set h, h]; simp only [Option.getD_some]; omega
theorem post_sum {b : List Int} {e : Entry} (hb : b.length = 12) (he : EntryOk e = true) : (post b e).sum = b.sum := by
  have f := entryFacts he
  have f1 := f.from_; have f2 := f.to_
  obtain ⟨v, hv⟩ : ∃ v, b[e.From.toNat]? = some v := ⟨_, List.getElem?_eq_getElem (by omega)⟩
  obtain ⟨u, hu⟩ : ∃ v, (bAdd b e.From (-e.Amount))[e.To.toNat]? = some v := ⟨_, List.getElem?_eq_getElem (by rw [bAdd_len]; omega)⟩
  unfold post
  rw [bAdd_sum hu, bAdd_sum hv]; omega
theorem balTo_sum {es : List Entry} (h : ∀ e ∈ es, EntryOk e = true) : ∀ k : Nat, (balTo es k).sum = 0
  | 0 => by rw [balTo_zero]; rfl
  | k + 1 => by
    have ih := balTo_sum h k
    cases hk : es[k]? with
    | none =>
      have hl : es.length ≤ k := by simpa using hk
      rw [balTo_all (by omega), ← balTo_all hl]; exact ih
    | some e => rw [balTo_succ hk, post_sum (balTo_len k) (h e (List.mem_of_getElem? hk)), ih]
theorem nz_two {l : List Int} (h : Bal l) (hs : sStop l = false) : 2 ≤ nz l := by
  obtain ⟨p, q, ho⟩ := owes h hs
  have hp := ho.pos; have hq := ho.neg
  have np := nz_pos ho.hi (by omega)
  have h1 := nz_set (y := 0) ho.hi
  have h2 := nz_pos (l := l.set (amaxTo l l.length) 0) (i := aminTo l l.length) (x := q) (by rw [List.getElem?_set_ne ho.ne]; exact ho.lo) (by omega)
  rw [h1, if_pos (by omega), if_neg (by omega)] at h2
  omega
theorem settle_few {t : Int} : ∀ {n : Nat} {l : List Int}, Bal l → (settleF n l t).length ≤ nz l - 1
  | 0, l, _ => by simp [settleF]
  | n + 1, l, h => by
    cases hs : sStop l with
    | true => rw [settleF_stop hs]; simp
    | false =>
      obtain ⟨p, q, ho⟩ := owes h hs
      obtain ⟨b1, b2⟩ := bal_post (t := t) h ho
      have := settle_few (t := t) (n := n) b1
      have := nz_two h hs
      rw [settleF_go hs, List.length_cons]; omega
theorem stop_zero {l : List Int} (h : Bal l) (hl : l.length ≠ 0) (hs : sStop l = true) : ∀ x ∈ l, x = 0 := by
  simp only [sStop, Bool.or_eq_true, decide_eq_true_eq] at hs
  have hs : vAt l (amaxTo l l.length) = 0 := by omega
  have le : ∀ x ∈ l, x ≤ 0 := fun x hx => by
    obtain ⟨j, hj⟩ := List.getElem?_of_mem hx
    have := amaxTo_ge (l := l) (List.getElem?_eq_some_iff.1 hj).1
    rw [hs, vAt_eq hj] at this; exact this
  intro x hx
  have h1 := sum_le le hx
  have h2 := le x hx
  have h3 := h.sum
  omega
theorem stop_of_nz {l : List Int} (h : Bal l) (hn : nz l = 0) : sStop l = true := by
  cases hs : sStop l with
  | true => rfl
  | false => have := nz_two h hs; omega
theorem settle_done {t : Int} : ∀ {n : Nat} {l : List Int}, Bal l → l.length ≠ 0 → nz l ≤ n → ∀ x ∈ (settleF n l t).foldl post l, x = 0
  | 0, l, h, hl, hn => by
    intro x hx
    simp only [settleF, List.foldl_nil] at hx
    exact stop_zero h hl (stop_of_nz h (by omega)) x hx
  | n + 1, l, h, hl, hn => by
    cases hs : sStop l with
    | true => rw [settleF_stop hs]; exact stop_zero h hl hs
    | false =>
      obtain ⟨p, q, ho⟩ := owes h hs
      obtain ⟨b1, b2⟩ := bal_post (t := t) h ho
      rw [settleF_go hs, List.foldl_cons]
      exact settle_done b1 (by rw [post_len]; exact hl) (by omega)
theorem sEntry_ok {l : List Int} {t : Int} (h : Bal l) (hs : sStop l = false) (ht : 0 ≤ t ∧ t ≤ 1000000) : EntryOk (sEntry l t) = true := by
  obtain ⟨p, q, ho⟩ := owes h hs
  have hp := ho.pos; have hq := ho.neg
  have rp := h.rng p (List.mem_of_getElem? ho.hi)
  have rq := h.rng q (List.mem_of_getElem? ho.lo)
  have i1 := (List.getElem?_eq_some_iff.1 ho.hi).1
  have i2 := (List.getElem?_eq_some_iff.1 ho.lo).1
  have hl := h.len
  have ha := sAmt_eq ho
  have hne := ho.ne
  simp only [EntryOk, sEntry, Bool.and_eq_true, decide_eq_true_eq, inRange_iff]
  refine ⟨⟨⟨⟨⟨?_, ?_⟩, ?_⟩, ?_⟩, ht⟩, by omega⟩
  · exact decide_eq_true (by intro e; exact hne (by omega))
  · omega
  · omega
  · split at ha <;> omega
theorem settle_ok {t : Int} (ht : 0 ≤ t ∧ t ≤ 1000000) : ∀ {n : Nat} {l : List Int}, Bal l → ∀ e ∈ settleF n l t, EntryOk e = true
  | 0, l, _ => by simp [settleF]
  | n + 1, l, h => by
    cases hs : sStop l with
    | true => rw [settleF_stop hs]; simp
    | false =>
      obtain ⟨p, q, ho⟩ := owes h hs
      obtain ⟨b1, b2⟩ := bal_post (t := t) h ho
      rw [settleF_go hs]
      intro e he
      rcases List.mem_cons.1 he with rfl | he
      · exact sEntry_ok h hs ht
      · exact settle_ok ht b1 e he
/-- What a book of few small entries comes to. -/
structure SettledFacts (es : List Entry) : Prop where
  list : (SettleUp (BalancesOf es) 50).length < 12
  ok : PostEntries es (SettleUp (BalancesOf es) 50) = (es ++ SettleUp (BalancesOf es) 50, true)
  len : (BalancesOf (es ++ SettleUp (BalancesOf es) 50)).length = 12
  zero : ∀ x ∈ BalancesOf (es ++ SettleUp (BalancesOf es) 50), x = 0
theorem settledFacts {es : List Entry} (hl : es.length ≤ 8) (ho : ∀ e ∈ es, EntryOk e = true) (ha : ∀ e ∈ es, e.Amount ≤ 500) : SettledFacts es := by
  have hb : BookOk es = true := by simp only [BookOk, Bool.and_eq_true, decide_eq_true_eq, List.all_eq_true]; exact ⟨by omega, ho⟩
  have eb : BalancesOf es = balTo es es.length := by rw [BalancesOf, if_pos hb, balTo_all (Nat.le_refl _)]
  have hlen : (balTo es es.length).length = 12 := balTo_len _
  have hr : ∀ x ∈ balTo es es.length, -1000000000 ≤ x ∧ x ≤ 1000000000 := by
    have key : ∀ k : Nat, ∀ x ∈ balTo es k, -(1000 * (k : Int)) ≤ x ∧ x ≤ 1000 * k := by
      intro k
      induction k with
      | zero => intro x hx; rw [balTo_zero] at hx; have := List.eq_of_mem_replicate hx; omega
      | succ k ih =>
        have e2 : ((k + 1 : Nat) : Int) = k + 1 := by simp
        cases hk : es[k]? with
        | none =>
          have hl : es.length ≤ k := by simpa using hk
          have e1 : balTo es (k + 1) = balTo es k := by rw [balTo_all (by omega), balTo_all hl]
          rw [e1]
          intro x hx
          have := ih x hx
          rw [e2]; omega
        | some e =>
          have f := (entryFacts (ho e (List.mem_of_getElem? hk))).amt
          have f2 := ha e (List.mem_of_getElem? hk)
          rw [balTo_succ hk]
          have h1 := bAdd_in (i := e.From) (d := -e.Amount) (m := 500) ih (by omega) (by omega)
          have h2 := bAdd_in (i := e.To) (d := e.Amount) (m := 500) h1 (by omega) (by omega)
          intro x hx
          have := h2 x hx
          rw [e2]; omega
    intro x hx
    have := key es.length x hx
    omega
  have hbal : Bal (balTo es es.length) := ⟨by omega, balTo_sum ho _, hr⟩
  have hok : okBal (balTo es es.length) 50 = true := by
    simp only [okBal, Bool.and_eq_true, decide_eq_true_eq, List.all_eq_true, inRange_iff]
    exact ⟨⟨⟨by omega, by omega⟩, hr⟩, hbal.sum⟩
  have hn := nz_le (balTo es es.length)
  have es2 : SettleUp (BalancesOf es) 50 = settleF (balTo es es.length).length (balTo es es.length) 50 := by rw [eb, SettleUp, if_pos hok]
  have hfew := settle_few (t := 50) (n := (balTo es es.length).length) hbal
  have hok2 := settle_ok (t := 50) (by omega) (n := (balTo es es.length).length) hbal
  have hdone := settle_done (t := 50) (n := (balTo es es.length).length) hbal (by omega) hn
  rw [← es2] at hfew hok2 hdone
  obtain ⟨L, hL⟩ : ∃ L, L = SettleUp (BalancesOf es) 50 := ⟨_, rfl⟩
  rw [← hL] at hfew hok2 hdone
  have hb2 : BookOk (es ++ L) = true := by
    simp only [BookOk, Bool.and_eq_true, decide_eq_true_eq, List.all_eq_true]
    refine ⟨by rw [List.length_append]; omega, fun e he => ?_⟩
    rcases List.mem_append.1 he with he | he
    · exact ho e he
    · exact hok2 e he
  have eb2 : BalancesOf (es ++ L) = L.foldl post (balTo es es.length) := by
    rw [BalancesOf, if_pos hb2, List.foldl_append, balTo_all (Nat.le_refl _)]
  have e3 : (BalancesOf (es ++ L)).length = 12 := by
    have := balTo_len (es := es ++ L) (es ++ L).length
    rw [balTo_all (Nat.le_refl _)] at this
    rw [BalancesOf, if_pos hb2]; exact this
  have e4 : PostEntries es L = (es ++ L, true) := by simp [PostEntries, hb, hb2]
  rw [← eb2] at hdone
  have e5 : L.length < 12 := by omega
  rw [hL] at e3 e4 e5 hdone
  exact ⟨e5, e4, e3, hdone⟩

end Go.Proofs.Ytfmgadchjiplmaa
