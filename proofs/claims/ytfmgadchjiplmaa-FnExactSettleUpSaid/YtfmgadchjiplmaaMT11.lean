/- Contracts of functions of this seat: what each answers, as plain Lean. -/
import Derived.Test.YtfmgadchjiplmaaMT10
set_option linter.all false
namespace Go.Proofs.Ytfmgadchjiplmaa
open Go.RowKit

theorem okBal_len {b : List Int} {t : Int} (h : ¬ b.length ≤ 12) : okBal b t = false := by simp [okBal, h]
set_option maxRecDepth 4000 in
theorem SettleUp_spec (b : List Int) (t : Int) (hb : b.length ≤ 1048576) : PureF Try.prog n_spec_SettleUp [.c (.sl 1 (b.map ienc)), .c (.i t)] (.c (.sl 5 ((SettleUp b t).map Entry.enc))) := by
  refine pure_of h_spec_SettleUp (by simp) fun hwf => ?_
  simp -dsimp -implicitDefEqProofs [c_spec_SettleUp]
  refine ⟨by omega, ?_⟩
  refine loop_rule (ι := Nat) (fun k => k ≤ b.length ∧ (∀ x ∈ b.take k, inRange x (-1000000000) 1000000000 = true) ∧ (k ≠ 0 → b.length ≤ 12)) (fun k => stOf [(1, .c (.i t)), (5, .own 13 5 0), (6, .own 14 1 b.length), (7, .c (.i (sumTo b k))), (8, .c (.i k))] [(13, .row 5 []), (14, .row 1 (b.map ienc))]) (fun k => b.length - k) 0 (by simp) (by apply le_of <;> simp [AV.refs1, AV.ref0, Obj.refs1, sumTo_zero]) ?_
  rintro k ⟨hk, hall, h12'⟩
  rcases Nat.lt_or_ge k b.length with hlt | hge
  · obtain ⟨x, hx⟩ : ∃ x, b[k]? = some x := ⟨_, List.getElem?_eq_getElem hlt⟩
    have g1 := (List.getElem?_eq_some_iff.1 hx).2
    simp -dsimp -implicitDefEqProofs [hx, lt_t hlt, g1, hlt]
    intro hlen
    first
      | refine call_lend (inRange_spec x (-1000000000) 1000000000) (by simp) rfl ?_
      | refine call_pure (inRange_spec x (-1000000000) 1000000000) (by simp) rfl ?_
      | refine ⟨_, _, inRange_spec x (-1000000000) 1000000000, by simp, .inr rfl, ?_⟩
      | refine ⟨_, _, inRange_spec x (-1000000000) 1000000000, by simp, .inl rfl, ?_⟩
    cases h1 : inRange x (-1000000000) 1000000000 with
    | false => simp -dsimp -implicitDefEqProofs; rw [SettleUp_no (okBal_all hx h1)]
    | true =>
      simp -dsimp -implicitDefEqProofs [hx, lt_t hlt, g1, hlt]
      refine fun _ => ⟨fun h12 => ?_, fun h12 => ?_⟩
      · rw [SettleUp_no (okBal_len (by omega))]
      have h12 : b.length ≤ 12 := by omega
      have hall' := all_take_succ (p := fun n => inRange n (-1000000000) 1000000000) hx hall h1
      have hs := sum_rng h12 hall' hlt
      rw [sumTo_succ hx] at hs
      exact ⟨by unfold inI; omega, inI_succ hlt hlen, k + 1, ⟨hlt, hall', fun _ => h12⟩, by omega, by apply le_of <;> simp [AV.refs1, AV.ref0, Obj.refs1, sumTo_succ hx]⟩
  · have hall2 := all_of_take (p := fun n => inRange n (-1000000000) 1000000000) hge hall
    have h12 : b.length ≤ 12 := by
      rcases Nat.eq_zero_or_pos k with e | e
      · omega
      · exact h12' (by omega)
    simp -dsimp -implicitDefEqProofs [lt_f hge]
    rw [sumTo_all hge]
    refine fun hlen => ⟨fun h1 => ?_, fun h1 => by rw [SettleUp_no (by simp [okBal, h1])]⟩
    first
      | refine call_lend (inRange_spec t 0 1000000) (by simp) rfl ?_
      | refine call_pure (inRange_spec t 0 1000000) (by simp) rfl ?_
      | refine ⟨_, _, inRange_spec t 0 1000000, by simp, .inr rfl, ?_⟩
      | refine ⟨_, _, inRange_spec t 0 1000000, by simp, .inl rfl, ?_⟩
    cases ht : inRange t 0 1000000 with
    | false => simp -dsimp -implicitDefEqProofs; rw [SettleUp_no (by simp [okBal, ht])]
    | true =>
    have hok : okBal b t = true := by simp [okBal, h12, ht, hall2, h1]
    simp -dsimp -implicitDefEqProofs
    refine loop_rule (ι := Nat × List Int × List Entry) (fun p => Midway b t p.1 p.2.1 p.2.2) (fun p => stOf [(1, .c (.i t)), (5, .own 13 5 p.2.2.length), (6, .own 14 1 b.length)] [(14, .row 1 (p.2.1.map ienc)), (13, .row 5 (p.2.2.map Entry.enc))]) (fun p => p.1) (b.length, b, []) (Midway.first hok) (by apply le_of <;> simp [AV.refs1, AV.ref0, Obj.refs1]) ?_
    rintro ⟨n, l, out⟩ hM
    simp only at hM
    have hll := hM.len
    simp -dsimp -implicitDefEqProofs
    refine loop_rule (ι := Nat) (fun k => k ≤ l.length) (fun k => stOf [(1, .c (.i t)), (5, .own 13 5 out.length), (6, .own 14 1 b.length), (9, .c (.i (amaxTo l k : Nat))), (10, .c (.i (aminTo l k : Nat))), (11, .c (.i k))] [(14, .row 1 (l.map ienc)), (13, .row 5 (out.map Entry.enc))]) (fun k => l.length - k) 0 (by simp) (by apply le_of <;> simp [AV.refs1, AV.ref0, Obj.refs1, amaxTo_zero, aminTo_zero]) ?_
    rintro k hk
    rcases Nat.lt_or_ge k l.length with hlt | hge
    · obtain ⟨x, hx⟩ : ∃ x, l[k]? = some x := ⟨_, List.getElem?_eq_getElem hlt⟩
      have i1 := amaxTo_lt (l := l) (by omega) hk
      have i2 := aminTo_lt (l := l) (by omega) hk
      obtain ⟨p, hp⟩ : ∃ p, l[amaxTo l k]? = some p := ⟨_, List.getElem?_eq_getElem i1⟩
      obtain ⟨q, hq⟩ : ∃ p, l[aminTo l k]? = some p := ⟨_, List.getElem?_eq_getElem i2⟩
      have g1 := (List.getElem?_eq_some_iff.1 hx).2
      have g2 := (List.getElem?_eq_some_iff.1 hp).2
      have g3 := (List.getElem?_eq_some_iff.1 hq).2
      have e1 : amaxTo l (k + 1) = if p < x then k else amaxTo l k := by rw [amaxTo_succ, vAt_eq hx, vAt_eq hp]
      have e2 : aminTo l (k + 1) = if x < q then k else aminTo l k := by rw [aminTo_succ, vAt_eq hx, vAt_eq hq]
      have j1 : ((k : Nat) : Int) < (b.length : Int) := by omega
      have j2 : ((amaxTo l k : Nat) : Int) < (b.length : Int) := by omega
      have j3 : ((aminTo l k : Nat) : Int) < (b.length : Int) := by omega
      have j4 : inI ((k : Int) + 1) := by unfold inI; have := hM.bal.len; omega
      generalize amaxTo l k = u at *
      generalize aminTo l k = w at *
      simp -dsimp -implicitDefEqProofs [hx, hp, hq, g1, g2, g3, j1, j2, j3, i1, i2, hlt]
      refine fun _ => ⟨fun c1 => ⟨fun c2 => ?_, fun c2 => ?_⟩, fun c1 => ⟨fun c2 => ?_, fun c2 => ?_⟩⟩
      all_goals
        refine ⟨j4, k + 1, hlt, by omega, ?_⟩
        apply le_of <;> simp [AV.refs1, AV.ref0, Obj.refs1, e1, e2] <;> (repeat' split) <;> omega
    · have e : k = l.length := by omega
      subst e
      simp -dsimp -implicitDefEqProofs [hll]
      refine fun _ => ⟨fun hne => ?_, fun he => ?_⟩
      rotate_left
      · have hs : sStop l = true := by simp [sStop, hll, he]
        rw [← hM.done hs, take_full]
      have hl0 : 0 < l.length := by rw [hll]; exact List.length_pos_iff.2 hne
      cases hs : sStop l with
      | true =>
        have i1 := amaxTo_lt hl0 (Nat.le_refl _)
        obtain ⟨p, hp⟩ : ∃ p, l[amaxTo l l.length]? = some p := ⟨_, List.getElem?_eq_getElem i1⟩
        have hp0 : p = 0 := by
          simp only [sStop, Bool.or_eq_true, decide_eq_true_eq, vAt_eq hp] at hs
          omega
        subst hp0
        have g1 := (List.getElem?_eq_some_iff.1 hp).2
        rw [hll] at hp i1
        simp only [hll] at g1
        simp -dsimp -implicitDefEqProofs [hp, g1, i1]
        rw [← hM.done hs, take_full]
      | false =>
        obtain ⟨m, p, q, rfl, o, hM'⟩ := hM.next hs
        have hf := hM'.few
        simp only [List.length_append, List.length_cons, List.length_nil] at hf
        have i1 := amaxTo_lt hl0 (Nat.le_refl _)
        have i2 := aminTo_lt hl0 (Nat.le_refl _)
        have hp := o.hi
        have hq := o.lo
        have ha := sAmt_eq o
        have op := o.pos; have oq := o.neg
        have rp := hM.bal.rng p (List.mem_of_getElem? hp)
        have rq := hM.bal.rng q (List.mem_of_getElem? hq)
        have hb1 : bAdd l (amaxTo l l.length : Nat) (-sAmt l) = l.set (amaxTo l l.length) (p - sAmt l) := by unfold bAdd; rw [Int.toNat_natCast, hp, ← Int.sub_eq_add_neg]; rfl
        have r1 : (bAdd l (amaxTo l l.length : Nat) (-sAmt l))[aminTo l l.length]? = some q := by rw [hb1, List.getElem?_set_ne o.ne]; exact o.lo
        have s1 : (l.map ienc).set (amaxTo l l.length) [.i (p - sAmt l)] = (bAdd l (amaxTo l l.length : Nat) (-sAmt l)).map ienc := by rw [hb1, List.map_set]
        have s2 : ((bAdd l (amaxTo l l.length : Nat) (-sAmt l)).map ienc).set (aminTo l l.length) [.i (q + sAmt l)] = (post l (sEntry l t)).map ienc := by
          rw [hb1, post_is (t := t) o]; simp [List.map_set]
        have g1 := (List.getElem?_eq_some_iff.1 hp).2
        have g2 := (List.getElem?_eq_some_iff.1 hq).2
        have g3 := (List.getElem?_eq_some_iff.1 r1).2
        have se : [Entry.enc (sEntry l t)] = [[.i (amaxTo l l.length : Nat), .i (aminTo l l.length : Nat), .i (sAmt l), .i t, .i 0]] := rfl
        have i3 : aminTo l l.length < (bAdd l (amaxTo l l.length : Nat) (-sAmt l)).length := by rw [bAdd_len]; exact i2
        simp only [hll] at hp hq r1 s1 s2 g1 g2 g3 i1 i2 se i3
        have pne : (p = 0) = False := by simp; omega
        have ha' := ha.symm
        have hA : 0 < sAmt l ∧ sAmt l ≤ p ∧ sAmt l ≤ -q := by rw [ha]; split <;> omega
        simp -dsimp -implicitDefEqProofs [hp, hq, g1, g2, i1, i2, pne, ha', r1, s1, s2, g3, i3, hll, bAdd_len]
        refine ⟨by unfold inI; omega, by omega, by unfold inI; omega, by unfold inI; omega, m, post l (sEntry l t), out ++ [sEntry l t], hM', by omega, ?_⟩
        apply le_of <;> simp [AV.refs1, AV.ref0, Obj.refs1, sEntry, hll]
theorem SettleUp_implP (b : List Int) (t : Int) (hb : b.length ≤ 1048576) : PureF Try.prog n_impl_SettleUp [.c (.sl 1 (b.map ienc)), .c (.i t)] (.c (.sl 5 ((SettleUp b t).map Entry.enc))) := (SettleUp_impl b t hb).pure (by simp)
theorem FnExactSettleUp_c (x0 : List Int) (x1 : Int) : PureF Try.prog n_laws_FnExactSettleUp [.c (.sl 1 (x0.map ienc)), .c (.i x1)] (.c (.b true)) := by
  refine pure_of h_laws_FnExactSettleUp (by simp) fun hwf => ?_
  simp -dsimp -implicitDefEqProofs [c_laws_FnExactSettleUp]
  refine fun _ hl => ?_
  have hl : x0.length ≤ 1048576 := by omega
  first
    | refine call_lend (toIntS_c x0 hl) (by simp) rfl ?_
    | refine call_pure (toIntS_c x0 hl) (by simp) rfl ?_
    | refine ⟨_, _, toIntS_c x0 hl, by simp, .inr rfl, ?_⟩
    | refine ⟨_, _, toIntS_c x0 hl, by simp, .inl rfl, ?_⟩
  simp -dsimp -implicitDefEqProofs
  first
    | refine call_lend (SettleUp_spec x0 x1 hl) (by simp) rfl ?_
    | refine call_pure (SettleUp_spec x0 x1 hl) (by simp) rfl ?_
    | refine ⟨_, _, SettleUp_spec x0 x1 hl, by simp, .inr rfl, ?_⟩
    | refine ⟨_, _, SettleUp_spec x0 x1 hl, by simp, .inl rfl, ?_⟩
  simp -dsimp -implicitDefEqProofs
  refine call_own (toIntS_o x0 hl) (by simp ) (by simp [AV.closed, AV.closed1, C.closed]) (by simp [freshO]) ?_
  simp -dsimp -implicitDefEqProofs
  refine call_own (SettleUp_impl x0 x1 hl) (by simp [take_full]) (by simp [AV.closed, AV.closed1, C.closed]) (by simp [freshO]) ?_
  simp -dsimp -implicitDefEqProofs
  first
    | refine call_lend (eqEntryS_c (SettleUp x0 x1) (SettleUp x0 x1)) (by simp [take_full]) rfl ?_
    | refine call_pure (eqEntryS_c (SettleUp x0 x1) (SettleUp x0 x1)) (by simp [take_full]) rfl ?_
    | refine ⟨_, _, eqEntryS_c (SettleUp x0 x1) (SettleUp x0 x1), by simp [take_full], .inr rfl, ?_⟩
    | refine ⟨_, _, eqEntryS_c (SettleUp x0 x1) (SettleUp x0 x1), by simp [take_full], .inl rfl, ?_⟩
  simp -dsimp -implicitDefEqProofs
  first
    | refine call_lend (toIntS_c x0 hl) (by simp) rfl ?_
    | refine call_pure (toIntS_c x0 hl) (by simp) rfl ?_
    | refine ⟨_, _, toIntS_c x0 hl, by simp, .inr rfl, ?_⟩
    | refine ⟨_, _, toIntS_c x0 hl, by simp, .inl rfl, ?_⟩
  simp -dsimp -implicitDefEqProofs
  first
    | refine call_lend (eqIntS_c x0 x0) (by simp [take_full]) rfl ?_
    | refine call_pure (eqIntS_c x0 x0) (by simp [take_full]) rfl ?_
    | refine ⟨_, _, eqIntS_c x0 x0, by simp [take_full], .inr rfl, ?_⟩
    | refine ⟨_, _, eqIntS_c x0 x0, by simp [take_full], .inl rfl, ?_⟩
  simp -dsimp -implicitDefEqProofs
  refine call_in1 (up := some (20, .row 1 (marked ienc 1 [] 1 x0.length))) (markIntS_c x0 1 (by omega) (by omega)) (by simp) rfl rfl (ioC_row (rows := x0.map ienc) (by simp) rfl rfl (by simp) (by simp [marked_n]) rfl rfl) ?_
  have n1 : (1 + (x0.length : Int) < 0) = False := by simp; omega
  simp -dsimp -implicitDefEqProofs [n1]
  first
    | refine call_lend (eqEntryS_c (SettleUp x0 x1) (SettleUp x0 x1)) (by simp [take_full]) rfl ?_
    | refine call_pure (eqEntryS_c (SettleUp x0 x1) (SettleUp x0 x1)) (by simp [take_full]) rfl ?_
    | refine ⟨_, _, eqEntryS_c (SettleUp x0 x1) (SettleUp x0 x1), by simp [take_full], .inr rfl, ?_⟩
    | refine ⟨_, _, eqEntryS_c (SettleUp x0 x1) (SettleUp x0 x1), by simp [take_full], .inl rfl, ?_⟩
  simp -dsimp -implicitDefEqProofs
  have hbl := SettleUp_len x0 x1
  refine call_in1 (up := some (23, .row 5 (marked mkE 5 [] 1 (SettleUp x0 x1).length))) (markEntryS_c (SettleUp x0 x1) 1 (by omega) (by omega)) (by simp) rfl rfl (ioC_row (rows := (SettleUp x0 x1).map Entry.enc) (by simp) rfl rfl (by simp) (by simp [marked_n]) rfl rfl) ?_
  simp -dsimp -implicitDefEqProofs
  first
    | refine call_lend (heldEntryS_c (SettleUp x0 x1).length 1 (by omega) (by omega)) (by simp [take_marked]) rfl ?_
    | refine call_pure (heldEntryS_c (SettleUp x0 x1).length 1 (by omega) (by omega)) (by simp [take_marked]) rfl ?_
    | refine ⟨_, _, heldEntryS_c (SettleUp x0 x1).length 1 (by omega) (by omega), by simp [take_marked], .inr rfl, ?_⟩
    | refine ⟨_, _, heldEntryS_c (SettleUp x0 x1).length 1 (by omega) (by omega), by simp [take_marked], .inl rfl, ?_⟩
  have n2 : (1 + 5 * ((SettleUp x0 x1).length : Int) < 0) = False := by simp; omega
  simp -dsimp -implicitDefEqProofs [n2]
  first
    | refine call_lend (toIntS_c x0 hl) (by simp) rfl ?_
    | refine call_pure (toIntS_c x0 hl) (by simp) rfl ?_
    | refine ⟨_, _, toIntS_c x0 hl, by simp, .inr rfl, ?_⟩
    | refine ⟨_, _, toIntS_c x0 hl, by simp, .inl rfl, ?_⟩
  simp -dsimp -implicitDefEqProofs
  first
    | refine call_lend (SettleUp_implP x0 x1 hl) (by simp) rfl ?_
    | refine call_pure (SettleUp_implP x0 x1 hl) (by simp) rfl ?_
    | refine ⟨_, _, SettleUp_implP x0 x1 hl, by simp, .inr rfl, ?_⟩
    | refine ⟨_, _, SettleUp_implP x0 x1 hl, by simp, .inl rfl, ?_⟩
  simp -dsimp -implicitDefEqProofs
  first
    | refine call_lend (eqEntryS_c (SettleUp x0 x1) (SettleUp x0 x1)) (by simp [take_full]) rfl ?_
    | refine call_pure (eqEntryS_c (SettleUp x0 x1) (SettleUp x0 x1)) (by simp [take_full]) rfl ?_
    | refine ⟨_, _, eqEntryS_c (SettleUp x0 x1) (SettleUp x0 x1), by simp [take_full], .inr rfl, ?_⟩
    | refine ⟨_, _, eqEntryS_c (SettleUp x0 x1) (SettleUp x0 x1), by simp [take_full], .inl rfl, ?_⟩
  simp -dsimp -implicitDefEqProofs
  first
    | refine call_lend (heldEntryS_c (SettleUp x0 x1).length 1 (by omega) (by omega)) (by simp [take_marked]) rfl ?_
    | refine call_pure (heldEntryS_c (SettleUp x0 x1).length 1 (by omega) (by omega)) (by simp [take_marked]) rfl ?_
    | refine ⟨_, _, heldEntryS_c (SettleUp x0 x1).length 1 (by omega) (by omega), by simp [take_marked], .inr rfl, ?_⟩
    | refine ⟨_, _, heldEntryS_c (SettleUp x0 x1).length 1 (by omega) (by omega), by simp [take_marked], .inl rfl, ?_⟩
  simp -dsimp -implicitDefEqProofs [n2]

end Go.Proofs.Ytfmgadchjiplmaa
