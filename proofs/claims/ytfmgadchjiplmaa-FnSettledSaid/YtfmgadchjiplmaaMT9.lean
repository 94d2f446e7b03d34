/- Contracts of functions of this seat: what each answers, as plain Lean. -/
import Derived.Test.YtfmgadchjiplmaaMT8
import Derived.Test.YtfmgadchjiplmaaMTy1
set_option linter.all false
namespace Go.Proofs.Ytfmgadchjiplmaa
open Go.RowKit

def sz_EntryS (xs : List Entry) (l : Int) : Int := szS xs.length l
def small_EntryS : List Entry → Prop := smallS fun _ => True
theorem sz_EntryS_ok : SzOk sz_EntryS small_EntryS := szS_ok'
theorem sz_EntryS_c (xs : List Entry) (l : Int) (h0 : 0 ≤ l) (h1 : l ≤ 1048576) : PureF Try.prog n_laws_szEntryS [.c (.sl 5 (xs.map Entry.enc)), .c (.i l)] (.c (.i (sz_EntryS xs l))) := by
  refine pure_of h_laws_szEntryS (by simp) fun hwf => ?_
  simp -dsimp -implicitDefEqProofs [c_laws_szEntryS, sz_EntryS, szS]
  intro hl
  unfold maxLen at hl
  refine ⟨by unfold inI; omega, fun h => ?_, fun h => ?_⟩ <;> intros <;> omega
/-! Balances. -/
def bAdd (b : List Int) (i d : Int) : List Int := b.set i.toNat (b[i.toNat]?.getD 0 + d)
def post (b : List Int) (e : Entry) : List Int := bAdd (bAdd b e.From (-e.Amount)) e.To e.Amount
def noBal : List Int := List.replicate 12 0
def balTo (es : List Entry) (k : Nat) : List Int := (es.take k).foldl post noBal
def BalancesOf (es : List Entry) : List Int := if BookOk es then es.foldl post noBal else []
theorem balTo_zero {es : List Entry} : balTo es 0 = noBal := rfl
theorem balTo_succ {es : List Entry} {k : Nat} {e : Entry} (h : es[k]? = some e) : balTo es (k + 1) = post (balTo es k) e := by
  unfold balTo; rw [List.take_succ, h, List.foldl_append]; rfl
theorem balTo_all {es : List Entry} {k : Nat} (h : es.length ≤ k) : balTo es k = es.foldl post noBal := by
  unfold balTo; rw [List.take_of_length_le h]
theorem bAdd_len {b : List Int} {i d : Int} : (bAdd b i d).length = b.length := by simp [bAdd]
theorem post_len {b : List Int} {e : Entry} : (post b e).length = b.length := by simp [post, bAdd_len]
theorem balTo_len {es : List Entry} : ∀ k : Nat, (balTo es k).length = 12
  | 0 => rfl
  | k + 1 => by
    cases h : es[k]? with
    | none =>
      have hl : es.length ≤ k := by simpa using h
      have := balTo_len (es := es) k
      rw [balTo_all (by omega)]; rwa [balTo_all hl] at this
    | some e => rw [balTo_succ h, post_len, balTo_len k]
structure EntryFacts (e : Entry) : Prop where
  ne : e.From ≠ e.To
  from_ : 0 ≤ e.From ∧ e.From ≤ 11
  to_ : 0 ≤ e.To ∧ e.To ≤ 11
  amt : 1 ≤ e.Amount ∧ e.Amount ≤ 1000000000
  time : 0 ≤ e.Time ∧ e.Time ≤ 1000000
  why : 0 ≤ e.Why ∧ e.Why ≤ 9999
theorem entryFacts {e : Entry} (h : EntryOk e = true) : EntryFacts e := by
  simp only [EntryOk, Bool.and_eq_true, decide_eq_true_eq] at h
  obtain ⟨⟨⟨⟨⟨h1, h2⟩, h3⟩, h4⟩, h5⟩, h6⟩ := h
  exact ⟨h1, inRange_iff.1 h2, inRange_iff.1 h3, inRange_iff.1 h4, inRange_iff.1 h5, inRange_iff.1 h6⟩
theorem bookFacts {es : List Entry} (h : BookOk es = true) : es.length ≤ 2000 ∧ ∀ e ∈ es, EntryOk e = true := by
  simp only [BookOk, Bool.and_eq_true, List.all_eq_true, decide_eq_true_eq] at h
  exact h
theorem bAdd_in {b : List Int} {i d n m : Int} (h : ∀ x ∈ b, -n ≤ x ∧ x ≤ n) (hd : -m ≤ d ∧ d ≤ m) (hn : 0 ≤ n) : ∀ x ∈ bAdd b i d, -(n + m) ≤ x ∧ x ≤ n + m := by
  intro x hx
  unfold bAdd at hx
  rcases List.mem_or_eq_of_mem_set hx with hx | rfl
  · have := h x hx; omega
  · cases hb : b[i.toNat]? with
    | none => simp; omega
    | some y => have := h y (List.mem_of_getElem? hb); simp; omega
theorem balTo_in {es : List Entry} (h : BookOk es = true) : ∀ k : Nat, ∀ x ∈ balTo es k, -(2000000000 * (k : Int)) ≤ x ∧ x ≤ 2000000000 * k
  | 0 => by intro x hx; rw [balTo_zero] at hx; have := List.eq_of_mem_replicate hx; omega
  | k + 1 => by
    have ih := balTo_in h k
    cases hk : es[k]? with
    | none =>
      have hl : es.length ≤ k := by simpa using hk
      have e1 : balTo es (k + 1) = balTo es k := by rw [balTo_all (by omega), balTo_all hl]
      rw [e1]
      intro x hx
      have := ih x hx
      have e2 : ((k + 1 : Nat) : Int) = k + 1 := by simp
      rw [e2]; omega
    | some e =>
      have ef := entryFacts ((bookFacts h).2 e (List.mem_of_getElem? hk))
      have ha := ef.amt
      rw [balTo_succ hk]
      have h1 := bAdd_in (i := e.From) (d := -e.Amount) (m := 1000000000) ih (by omega) (by omega)
      have h2 := bAdd_in (i := e.To) (d := e.Amount) (m := 1000000000) h1 (by omega) (by omega)
      intro x hx
      have := h2 x hx
      have e2 : ((k + 1 : Nat) : Int) = k + 1 := by simp
      rw [e2]; omega
theorem bAdd_at {b : List Int} {i d v : Int} (h : b[i.toNat]? = some v) : (b.map ienc).set i.toNat [.i (v + d)] = (bAdd b i d).map ienc := by
  unfold bAdd; rw [h, List.map_set]; rfl
theorem bAdd_other {b : List Int} {i j d : Int} (h : i.toNat ≠ j.toNat) : (bAdd b i d)[j.toNat]? = b[j.toNat]? := by
  unfold bAdd; rw [List.getElem?_set]; simp [h]
theorem bAdd_comm {b : List Int} {i j d e : Int} (h : i.toNat ≠ j.toNat) : bAdd (bAdd b i d) j e = bAdd (bAdd b j e) i d := by
  have h1 := bAdd_other (b := b) (d := d) h
  have h2 := bAdd_other (b := b) (d := e) (fun e => h e.symm)
  have e1 : bAdd (bAdd b i d) j e = (bAdd b i d).set j.toNat (b[j.toNat]?.getD 0 + e) := by rw [← h1]; rfl
  have e2 : bAdd (bAdd b j e) i d = (bAdd b j e).set i.toNat (b[i.toNat]?.getD 0 + d) := by rw [← h2]; rfl
  rw [e1, e2]
  unfold bAdd
  exact List.set_comm _ _ h
theorem map_at {b : List Int} {i v : Int} (h : b[i.toNat]? = some v) : (b.map ienc)[i.toNat]? = some [.i v] := by simp [h]
theorem BalancesOf_impl (es : List Entry) : OwnF Try.prog n_impl_BalancesOf [.c (.sl 5 (es.map Entry.enc))] (.c (.ow 1 ((BalancesOf es).map ienc))) := by
  refine own_of h_impl_BalancesOf (by simp) fun hwf => ?_
  simp -dsimp -implicitDefEqProofs [c_impl_BalancesOf]
  first
    | refine call_lend (BookOk_impl es) (by simp) rfl ?_
    | refine call_pure (BookOk_impl es) (by simp) rfl ?_
    | refine ⟨_, _, BookOk_impl es, by simp, .inr rfl, ?_⟩
    | refine ⟨_, _, BookOk_impl es, by simp, .inl rfl, ?_⟩
    | refine callE_pure (BookOk_impl es) (by simp) (.inr rfl) ?_
    | refine callE_pure (BookOk_impl es) (by simp) (.inl rfl) ?_
  cases h : BookOk es with
  | false => simp -dsimp -implicitDefEqProofs; simp [BalancesOf, h]
  | true =>
    obtain ⟨hb1, hb2⟩ := bookFacts h
    simp -dsimp -implicitDefEqProofs
    intro hlen
    refine loop_rule (ι := Nat) (fun k => k ≤ es.length) (fun k => stOf [(3, .own 9 1 12), (10, .c (.sl 5 (es.map Entry.enc))), (11, .c (.i es.length)), (12, .c (.i k))] [(9, .row 1 ((balTo es k).map ienc))]) (fun k => es.length - k) 0 (by simp) (by apply le_of <;> simp [AV.refs1, AV.ref0, Obj.refs1, balTo_zero, noBal]) ?_
    rintro k hk
    rcases Nat.lt_or_ge k es.length with hlt | hge
    · obtain ⟨e, he⟩ : ∃ e, es[k]? = some e := ⟨_, List.getElem?_eq_getElem hlt⟩
      have ef := entryFacts (hb2 e (List.mem_of_getElem? he))
      have f1 := ef.from_; have f2 := ef.to_; have f3 := ef.amt; have f4 := ef.ne
      have hl := balTo_len (es := es) k
      have hin := balTo_in h k
      have hs := balTo_succ he
      generalize balTo es k = b at *
      obtain ⟨v, hv⟩ : ∃ v, b[e.From.toNat]? = some v := ⟨_, List.getElem?_eq_getElem (by omega)⟩
      obtain ⟨u, hu⟩ : ∃ v, b[e.To.toNat]? = some v := ⟨_, List.getElem?_eq_getElem (by omega)⟩
      have iv' := hin v (List.mem_of_getElem? hv)
      have iu' := hin u (List.mem_of_getElem? hu)
      have hne : e.From.toNat ≠ e.To.toNat := by omega
      have m1 := map_at hv
      have m2 := map_at (bAdd_other (d := -e.Amount) hne ▸ hu)
      have s1 := bAdd_at (d := -e.Amount) hv
      have s2 := bAdd_at (b := bAdd b e.From (-e.Amount)) (i := e.To) (d := e.Amount) (by rw [bAdd_other hne]; exact hu)
      have hu' : (bAdd b e.From (-e.Amount))[e.To.toNat]? = some u := by rw [bAdd_other hne]; exact hu
      have g1 := (List.getElem?_eq_some_iff.1 hv).2
      have g2 := (List.getElem?_eq_some_iff.1 hu').2
      have k1 : e.From.toNat < b.length := by omega
      have k2 : e.To.toNat < b.length := by omega
      have k3 : e.From < 12 := by omega
      have k4 : e.To < 12 := by omega
      rw [← Int.sub_eq_add_neg] at s1
      simp -dsimp -implicitDefEqProofs [he, lt_t hlt, hv, g1, s1, hu', g2, s2, k1, k2, k3, k4, f1.1, f2.1, bAdd_len]
      refine ⟨by unfold inI; omega, by unfold inI; omega, inI_succ hlt hlen, k + 1, hlt, by omega, ?_⟩
      apply le_of <;> simp [AV.refs1, AV.ref0, Obj.refs1, hs, post]
    · simp -dsimp -implicitDefEqProofs [lt_f hge]
      rw [balTo_all hge, List.take_of_length_le (by have := balTo_len (es := es) es.length; rw [balTo_all (Nat.le_refl _)] at this; simp [this])]
      simp [BalancesOf, h]
theorem BalancesOf_implP (es : List Entry) : PureF Try.prog n_impl_BalancesOf [.c (.sl 5 (es.map Entry.enc))] (.c (.sl 1 ((BalancesOf es).map ienc))) := (BalancesOf_impl es).pure (by simp)
theorem BalancesOf_spec (es : List Entry) : PureF Try.prog n_spec_BalancesOf [.c (.sl 5 (es.map Entry.enc))] (.c (.sl 1 ((BalancesOf es).map ienc))) := by
  refine pure_of h_spec_BalancesOf (by simp) fun hwf => ?_
  simp -dsimp -implicitDefEqProofs [c_spec_BalancesOf]
  first
    | refine call_lend (BookOk_spec es) (by simp) rfl ?_
    | refine call_pure (BookOk_spec es) (by simp) rfl ?_
    | refine ⟨_, _, BookOk_spec es, by simp, .inr rfl, ?_⟩
    | refine ⟨_, _, BookOk_spec es, by simp, .inl rfl, ?_⟩
    | refine callE_pure (BookOk_spec es) (by simp) (.inr rfl) ?_
    | refine callE_pure (BookOk_spec es) (by simp) (.inl rfl) ?_
  cases h : BookOk es with
  | false => simp -dsimp -implicitDefEqProofs; simp [BalancesOf, h]
  | true =>
    obtain ⟨hb1, hb2⟩ := bookFacts h
    simp -dsimp -implicitDefEqProofs
    refine loop_rule (ι := Nat) (fun k => k ≤ es.length) (fun k => stOf [(0, .c (.sl 5 (es.map Entry.enc))), (3, .own 9 1 12), (4, .c (.i k))] [(9, .row 1 ((balTo es k).map ienc))]) (fun k => es.length - k) 0 (by simp) (by apply le_of <;> simp [AV.refs1, AV.ref0, Obj.refs1, balTo_zero, noBal]) ?_
    rintro k hk
    rcases Nat.lt_or_ge k es.length with hlt | hge
    · obtain ⟨e, he⟩ : ∃ e, es[k]? = some e := ⟨_, List.getElem?_eq_getElem hlt⟩
      have ef := entryFacts (hb2 e (List.mem_of_getElem? he))
      have f1 := ef.from_; have f2 := ef.to_; have f3 := ef.amt; have f4 := ef.ne
      have hl := balTo_len (es := es) k
      have hin := balTo_in h k
      have hs := balTo_succ he
      generalize balTo es k = b at *
      obtain ⟨v, hv⟩ : ∃ v, b[e.From.toNat]? = some v := ⟨_, List.getElem?_eq_getElem (by omega)⟩
      obtain ⟨u, hu⟩ : ∃ v, b[e.To.toNat]? = some v := ⟨_, List.getElem?_eq_getElem (by omega)⟩
      have iv' := hin v (List.mem_of_getElem? hv)
      have iu' := hin u (List.mem_of_getElem? hu)
      have hne : e.To.toNat ≠ e.From.toNat := by omega
      have hv' : (bAdd b e.To e.Amount)[e.From.toNat]? = some v := by rw [bAdd_other hne]; exact hv
      have s1 := bAdd_at (d := e.Amount) hu
      have s2 := bAdd_at (b := bAdd b e.To e.Amount) (i := e.From) (d := -e.Amount) hv'
      have g1 := (List.getElem?_eq_some_iff.1 hu).2
      have g2 := (List.getElem?_eq_some_iff.1 hv').2
      have k1 : e.From.toNat < b.length := by omega
      have k2 : e.To.toNat < b.length := by omega
      have k3 : e.From < 12 := by omega
      have k4 : e.To < 12 := by omega
      rw [← Int.sub_eq_add_neg, bAdd_comm hne] at s2
      simp -dsimp -implicitDefEqProofs [he, lt_t hlt, hu, g1, s1, hv', g2, s2, k1, k2, k3, k4, f1.1, f2.1, bAdd_len]
      refine fun hlen => ⟨by unfold inI; omega, by unfold inI; omega, inI_succ hlt hlen, k + 1, hlt, by omega, ?_⟩
      apply le_of <;> simp [AV.refs1, AV.ref0, Obj.refs1, hs, post]
    · simp -dsimp -implicitDefEqProofs [lt_f hge]
      intro _
      rw [balTo_all hge, List.take_of_length_le (by have := balTo_len (es := es) es.length; rw [balTo_all (Nat.le_refl _)] at this; simp [this])]
      simp [BalancesOf, h]
theorem BalancesOf_len (es : List Entry) : (BalancesOf es).length ≤ 12 := by
  unfold BalancesOf
  split
  · have := balTo_len (es := es) es.length
    rw [balTo_all (Nat.le_refl _)] at this
    omega
  · simp
theorem FnExactBalancesOf_c (x0 : List Entry) : PureF Try.prog n_laws_FnExactBalancesOf [.c (.sl 5 (x0.map Entry.enc))] (.c (.b true)) := by
  refine pure_of h_laws_FnExactBalancesOf (by simp) fun hwf => ?_
  simp -dsimp -implicitDefEqProofs [c_laws_FnExactBalancesOf]
  first
    | refine call_lend (sz_EntryS_c x0 1048576 (by omega) (by omega)) (by simp) rfl ?_
    | refine call_pure (sz_EntryS_c x0 1048576 (by omega) (by omega)) (by simp) rfl ?_
    | refine ⟨_, _, sz_EntryS_c x0 1048576 (by omega) (by omega), by simp, .inr rfl, ?_⟩
    | refine ⟨_, _, sz_EntryS_c x0 1048576 (by omega) (by omega), by simp, .inl rfl, ?_⟩
    | refine callE_pure (sz_EntryS_c x0 1048576 (by omega) (by omega)) (by simp) (.inr rfl) ?_
    | refine callE_pure (sz_EntryS_c x0 1048576 (by omega) (by omega)) (by simp) (.inl rfl) ?_
  simp -dsimp -implicitDefEqProofs
  intro hsz
  have hl0 := sz_small sz_EntryS_ok (by omega) (by omega) hsz
  first
    | refine call_lend (toEntryS_c x0 hl0.1) (by simp) rfl ?_
    | refine call_pure (toEntryS_c x0 hl0.1) (by simp) rfl ?_
    | refine ⟨_, _, toEntryS_c x0 hl0.1, by simp, .inr rfl, ?_⟩
    | refine ⟨_, _, toEntryS_c x0 hl0.1, by simp, .inl rfl, ?_⟩
    | refine callE_pure (toEntryS_c x0 hl0.1) (by simp) (.inr rfl) ?_
    | refine callE_pure (toEntryS_c x0 hl0.1) (by simp) (.inl rfl) ?_
  simp -dsimp -implicitDefEqProofs
  first
    | refine call_lend (BalancesOf_spec x0) (by simp) rfl ?_
    | refine call_pure (BalancesOf_spec x0) (by simp) rfl ?_
    | refine ⟨_, _, BalancesOf_spec x0, by simp, .inr rfl, ?_⟩
    | refine ⟨_, _, BalancesOf_spec x0, by simp, .inl rfl, ?_⟩
    | refine callE_pure (BalancesOf_spec x0) (by simp) (.inr rfl) ?_
    | refine callE_pure (BalancesOf_spec x0) (by simp) (.inl rfl) ?_
  simp -dsimp -implicitDefEqProofs
  first
    | refine call_own (toEntryS_o x0 hl0.1) (by simp ) (by simp [AV.closed, AV.closed1, C.closed]) (by simp [freshO]) ?_
    | refine callE_own (toEntryS_o x0 hl0.1) (by simp ) (by simp [AV.closed, AV.closed1, C.closed]) (by simp [freshO]) ?_
  simp -dsimp -implicitDefEqProofs
  first
    | refine call_own (BalancesOf_impl x0) (by simp [take_full]) (by simp [AV.closed, AV.closed1, C.closed]) (by simp [freshO]) ?_
    | refine callE_own (BalancesOf_impl x0) (by simp [take_full]) (by simp [AV.closed, AV.closed1, C.closed]) (by simp [freshO]) ?_
  simp -dsimp -implicitDefEqProofs
  first
    | refine call_lend (eqIntS_c (BalancesOf x0) (BalancesOf x0)) (by simp [take_full]) rfl ?_
    | refine call_pure (eqIntS_c (BalancesOf x0) (BalancesOf x0)) (by simp [take_full]) rfl ?_
    | refine ⟨_, _, eqIntS_c (BalancesOf x0) (BalancesOf x0), by simp [take_full], .inr rfl, ?_⟩
    | refine ⟨_, _, eqIntS_c (BalancesOf x0) (BalancesOf x0), by simp [take_full], .inl rfl, ?_⟩
    | refine callE_pure (eqIntS_c (BalancesOf x0) (BalancesOf x0)) (by simp [take_full]) (.inr rfl) ?_
    | refine callE_pure (eqIntS_c (BalancesOf x0) (BalancesOf x0)) (by simp [take_full]) (.inl rfl) ?_
  simp -dsimp -implicitDefEqProofs
  first
    | refine call_lend (toEntryS_c x0 hl0.1) (by simp) rfl ?_
    | refine call_pure (toEntryS_c x0 hl0.1) (by simp) rfl ?_
    | refine ⟨_, _, toEntryS_c x0 hl0.1, by simp, .inr rfl, ?_⟩
    | refine ⟨_, _, toEntryS_c x0 hl0.1, by simp, .inl rfl, ?_⟩
    | refine callE_pure (toEntryS_c x0 hl0.1) (by simp) (.inr rfl) ?_
    | refine callE_pure (toEntryS_c x0 hl0.1) (by simp) (.inl rfl) ?_
  simp -dsimp -implicitDefEqProofs
  first
    | refine call_lend (eqEntryS_c x0 x0) (by simp [take_full]) rfl ?_
    | refine call_pure (eqEntryS_c x0 x0) (by simp [take_full]) rfl ?_
    | refine ⟨_, _, eqEntryS_c x0 x0, by simp [take_full], .inr rfl, ?_⟩
    | refine ⟨_, _, eqEntryS_c x0 x0, by simp [take_full], .inl rfl, ?_⟩
    | refine callE_pure (eqEntryS_c x0 x0) (by simp [take_full]) (.inr rfl) ?_
    | refine callE_pure (eqEntryS_c x0 x0) (by simp [take_full]) (.inl rfl) ?_
  simp -dsimp -implicitDefEqProofs
  refine call_in1 (up := some (20, .row 5 (marked mkEn 5 [] 1 x0.length))) (markEntryS_c x0 1 (by omega) (by have := hl0.1; omega)) (by simp) rfl rfl (ioC_row (rows := x0.map Entry.enc) (by simp) rfl rfl (by simp) (by simp [marked_n]) rfl rfl) ?_
  have n1 : (1 + 5 * (x0.length : Int) < 0) = False := by simp; omega
  simp -dsimp -implicitDefEqProofs [n1]
  first
    | refine call_lend (eqIntS_c (BalancesOf x0) (BalancesOf x0)) (by simp [take_full]) rfl ?_
    | refine call_pure (eqIntS_c (BalancesOf x0) (BalancesOf x0)) (by simp [take_full]) rfl ?_
    | refine ⟨_, _, eqIntS_c (BalancesOf x0) (BalancesOf x0), by simp [take_full], .inr rfl, ?_⟩
    | refine ⟨_, _, eqIntS_c (BalancesOf x0) (BalancesOf x0), by simp [take_full], .inl rfl, ?_⟩
    | refine callE_pure (eqIntS_c (BalancesOf x0) (BalancesOf x0)) (by simp [take_full]) (.inr rfl) ?_
    | refine callE_pure (eqIntS_c (BalancesOf x0) (BalancesOf x0)) (by simp [take_full]) (.inl rfl) ?_
  simp -dsimp -implicitDefEqProofs
  have hbl := BalancesOf_len x0
  refine call_in1 (up := some (22, .row 1 (marked ienc 1 [] 1 (BalancesOf x0).length))) (markIntS_c (BalancesOf x0) 1 (by omega) (by omega)) (by simp) rfl rfl (ioC_row (rows := (BalancesOf x0).map ienc) (by simp) rfl rfl (by simp) (by simp [marked_n]) rfl rfl) ?_
  simp -dsimp -implicitDefEqProofs
  first
    | refine call_lend (heldIntS_c (BalancesOf x0).length 1 (by omega) (by omega)) (by simp [take_marked]) rfl ?_
    | refine call_pure (heldIntS_c (BalancesOf x0).length 1 (by omega) (by omega)) (by simp [take_marked]) rfl ?_
    | refine ⟨_, _, heldIntS_c (BalancesOf x0).length 1 (by omega) (by omega), by simp [take_marked], .inr rfl, ?_⟩
    | refine ⟨_, _, heldIntS_c (BalancesOf x0).length 1 (by omega) (by omega), by simp [take_marked], .inl rfl, ?_⟩
    | refine callE_pure (heldIntS_c (BalancesOf x0).length 1 (by omega) (by omega)) (by simp [take_marked]) (.inr rfl) ?_
    | refine callE_pure (heldIntS_c (BalancesOf x0).length 1 (by omega) (by omega)) (by simp [take_marked]) (.inl rfl) ?_
  have n2 : (1 + ((BalancesOf x0).length : Int) < 0) = False := by simp; omega
  simp -dsimp -implicitDefEqProofs [n2]
  first
    | refine call_lend (toEntryS_c x0 hl0.1) (by simp) rfl ?_
    | refine call_pure (toEntryS_c x0 hl0.1) (by simp) rfl ?_
    | refine ⟨_, _, toEntryS_c x0 hl0.1, by simp, .inr rfl, ?_⟩
    | refine ⟨_, _, toEntryS_c x0 hl0.1, by simp, .inl rfl, ?_⟩
    | refine callE_pure (toEntryS_c x0 hl0.1) (by simp) (.inr rfl) ?_
    | refine callE_pure (toEntryS_c x0 hl0.1) (by simp) (.inl rfl) ?_
  simp -dsimp -implicitDefEqProofs
  first
    | refine call_lend (BalancesOf_implP x0) (by simp) rfl ?_
    | refine call_pure (BalancesOf_implP x0) (by simp) rfl ?_
    | refine ⟨_, _, BalancesOf_implP x0, by simp, .inr rfl, ?_⟩
    | refine ⟨_, _, BalancesOf_implP x0, by simp, .inl rfl, ?_⟩
    | refine callE_pure (BalancesOf_implP x0) (by simp) (.inr rfl) ?_
    | refine callE_pure (BalancesOf_implP x0) (by simp) (.inl rfl) ?_
  simp -dsimp -implicitDefEqProofs
  first
    | refine call_lend (eqIntS_c (BalancesOf x0) (BalancesOf x0)) (by simp [take_full]) rfl ?_
    | refine call_pure (eqIntS_c (BalancesOf x0) (BalancesOf x0)) (by simp [take_full]) rfl ?_
    | refine ⟨_, _, eqIntS_c (BalancesOf x0) (BalancesOf x0), by simp [take_full], .inr rfl, ?_⟩
    | refine ⟨_, _, eqIntS_c (BalancesOf x0) (BalancesOf x0), by simp [take_full], .inl rfl, ?_⟩
    | refine callE_pure (eqIntS_c (BalancesOf x0) (BalancesOf x0)) (by simp [take_full]) (.inr rfl) ?_
    | refine callE_pure (eqIntS_c (BalancesOf x0) (BalancesOf x0)) (by simp [take_full]) (.inl rfl) ?_
  simp -dsimp -implicitDefEqProofs
  first
    | refine call_lend (heldIntS_c (BalancesOf x0).length 1 (by omega) (by omega)) (by simp [take_marked]) rfl ?_
    | refine call_pure (heldIntS_c (BalancesOf x0).length 1 (by omega) (by omega)) (by simp [take_marked]) rfl ?_
    | refine ⟨_, _, heldIntS_c (BalancesOf x0).length 1 (by omega) (by omega), by simp [take_marked], .inr rfl, ?_⟩
    | refine ⟨_, _, heldIntS_c (BalancesOf x0).length 1 (by omega) (by omega), by simp [take_marked], .inl rfl, ?_⟩
    | refine callE_pure (heldIntS_c (BalancesOf x0).length 1 (by omega) (by omega)) (by simp [take_marked]) (.inr rfl) ?_
    | refine callE_pure (heldIntS_c (BalancesOf x0).length 1 (by omega) (by omega)) (by simp [take_marked]) (.inl rfl) ?_
  simp -dsimp -implicitDefEqProofs [n2]

end Go.Proofs.Ytfmgadchjiplmaa
