/- Contracts of functions of this seat: what each answers, as plain Lean. -/
import Derived.Test.YtfmgadchjiplmaaMT28
import Derived.Test.YtfmgadchjiplmaaMCode10
set_option linter.all false
namespace Go.Proofs.Ytfmgadchjiplmaa
open Go.RowKit

/-! Sharing out, as the reference does. -/
def pre (l : List Int) (k : Nat) : List Int := l.take k
theorem pre_zero {l : List Int} : pre l 0 = [] := rfl
theorem pre_len {l : List Int} {k : Nat} (h : k ≤ l.length) : (pre l k).length = k := by simp [pre]; omega
theorem pre_succ {l : List Int} {k : Nat} {x : Int} (h : l[k]? = some x) : pre l (k + 1) = pre l k ++ [x] := by unfold pre; rw [List.take_succ, h]; rfl
theorem pre_all {l : List Int} {k : Nat} (h : l.length ≤ k) : pre l k = l := by unfold pre; exact List.take_of_length_le h
structure Picks (t : Int) (ws : List Int) (m : Nat) (out rest : List Int) : Prop where
  lo : out.length = ws.length
  lr : rest.length = ws.length
  all : shareF m out rest = ShareOut t ws
  few : m ≤ 12
  rng : ∀ x ∈ out, 0 ≤ x ∧ x ≤ 1000000000000100 - m
theorem Picks.next {t : Int} {ws : List Int} {m : Nat} {out rest : List Int} (h : Picks t ws (m + 1) out rest) (hp : 1 ≤ ws.length) :
    Picks t ws m (out.set (amaxTo rest ws.length) (vAt out (amaxTo rest ws.length) + 1)) (rest.set (amaxTo rest ws.length) (-1)) := by
  have hl := h.lr
  refine ⟨by rw [List.length_set]; exact h.lo, by rw [List.length_set]; exact hl, ?_, by have := h.few; omega, fun x hx => ?_⟩
  · rw [← h.all, shareF, hl]
  · have e : ((m + 1 : Nat) : Int) = m + 1 := by simp
    have r := h.rng
    rw [e] at r
    rcases List.mem_or_eq_of_mem_set hx with hx | rfl
    · have := r x hx; omega
    · have hlt : amaxTo rest ws.length < out.length := by rw [h.lo, ← hl]; exact amaxTo_lt (by omega) (by omega)
      have := r (vAt out (amaxTo rest ws.length)) (by unfold vAt; rw [List.getElem?_eq_getElem hlt]; exact List.getElem_mem hlt)
      omega
set_option maxRecDepth 4000 in
theorem ShareOut_spec (t : Int) (ws : List Int) (hl : ws.length ≤ 1048576) : PureF Try.prog n_spec_ShareOut [.c (.i t), .c (.sl 1 (ws.map ienc))] (.c (.sl 1 ((ShareOut t ws).map ienc))) := by
  refine pure_of h_spec_ShareOut (by simp) fun hwf => ?_
  simp -dsimp -implicitDefEqProofs [c_spec_ShareOut]
  refine loop_rule (ι := Nat) (fun k => k ≤ ws.length ∧ (∀ x ∈ ws.take k, inRange x 0 1000000 = true) ∧ (k ≠ 0 → ws.length ≤ 12)) (fun k => stOf [(0, .c (.i t)), (1, .c (.sl 1 (ws.map ienc))), (5, .own 13 1 0), (6, .own 14 1 0), (7, .c (.i (sumTo ws k))), (8, .c (.i k))] [(13, .row 1 []), (14, .row 1 [])]) (fun k => ws.length - k) 0 (by simp) (by apply le_of <;> simp [AV.refs1, AV.ref0, Obj.refs1, sumTo_zero]) ?_
  rintro k ⟨hk, hall, h12'⟩
  rcases Nat.lt_or_ge k ws.length with hlt | hge
  · obtain ⟨x, hx⟩ : ∃ x, ws[k]? = some x := ⟨_, List.getElem?_eq_getElem hlt⟩
    have g1 := (List.getElem?_eq_some_iff.1 hx).2
    simp -dsimp -implicitDefEqProofs [hx, lt_t hlt, g1, hlt]
    intro hlen
    first
      | refine call_lend (inRange_spec x 0 1000000) (by simp) rfl ?_
      | refine call_pure (inRange_spec x 0 1000000) (by simp) rfl ?_
      | refine ⟨_, _, inRange_spec x 0 1000000, by simp, .inr rfl, ?_⟩
      | refine ⟨_, _, inRange_spec x 0 1000000, by simp, .inl rfl, ?_⟩
      | refine callE_pure (inRange_spec x 0 1000000) (by simp) (.inr rfl) ?_
      | refine callE_pure (inRange_spec x 0 1000000) (by simp) (.inl rfl) ?_
    cases h1 : inRange x 0 1000000 with
    | false => simp -dsimp -implicitDefEqProofs; rw [okShare_no (by have := all_false (p := fun w => inRange w 0 1000000) hx h1; simp [okShare, this])]
    | true =>
      simp -dsimp -implicitDefEqProofs [hx, lt_t hlt, g1, hlt]
      refine fun _ => ⟨fun h12 => ?_, fun h12 => ?_⟩
      · rw [okShare_no (by simp [okShare]; omega)]
      have h12 : ws.length ≤ 12 := by omega
      have hall' := all_take_succ (p := fun n => inRange n 0 1000000) hx hall h1
      have hs := wsum_rng h12 hall'
      rw [sumTo_succ hx] at hs
      exact ⟨by unfold inI; omega, inI_succ hlt hlen, k + 1, ⟨hlt, hall', fun _ => h12⟩, by omega, by apply le_of <;> simp [AV.refs1, AV.ref0, Obj.refs1, sumTo_succ hx]⟩
  · have hall2 := all_of_take (p := fun n => inRange n 0 1000000) hge hall
    have h12 : ws.length ≤ 12 := by
      rcases Nat.eq_zero_or_pos k with e | e
      · omega
      · exact h12' (by omega)
    simp -dsimp -implicitDefEqProofs [lt_f hge]
    rw [sumTo_all hge]
    clear hall hk hge h12'
    refine fun hlen => ⟨fun h0 => ?_, fun h0 => by rw [okShare_no (by simp [okShare, h0])]⟩
    first
      | refine call_lend (inRange_spec t 0 1000000000) (by simp) rfl ?_
      | refine call_pure (inRange_spec t 0 1000000000) (by simp) rfl ?_
      | refine ⟨_, _, inRange_spec t 0 1000000000, by simp, .inr rfl, ?_⟩
      | refine ⟨_, _, inRange_spec t 0 1000000000, by simp, .inl rfl, ?_⟩
      | refine callE_pure (inRange_spec t 0 1000000000) (by simp) (.inr rfl) ?_
      | refine callE_pure (inRange_spec t 0 1000000000) (by simp) (.inl rfl) ?_
    cases ht : inRange t 0 1000000000 with
    | false => simp -dsimp -implicitDefEqProofs; rw [okShare_no (by simp [okShare, ht])]
    | true =>
    have h1 : 1 ≤ ws.length := by
      rcases Nat.eq_zero_or_pos ws.length with e | e
      · rw [List.length_eq_zero_iff.1 e] at h0; simp at h0
      · exact e
    have hok : okShare t ws = true := by simp [okShare, ht, h12, h1, hall2, h0]
    have f := shareFacts hok
    have hlft := left_rng f
    have ft := f.tot; have fs := f.sum; have frng := f.rng
    have hSO : ShareOut t ws = shareF (restOf t ws).toNat (ws.map (quota t ws.sum)) (ws.map (remn t ws.sum)) := by rw [ShareOut, if_pos hok]
    obtain ⟨Q, hQd⟩ : ∃ Q, Q = ws.map (quota t ws.sum) := ⟨_, rfl⟩
    obtain ⟨R, hRd⟩ : ∃ R, R = ws.map (remn t ws.sum) := ⟨_, rfl⟩
    have hQl : Q.length = ws.length := by rw [hQd, List.length_map]
    have hRl : R.length = ws.length := by rw [hRd, List.length_map]
    have hQr : ∀ q ∈ Q, 0 ≤ q ∧ q ≤ 1000000000000000 := fun q hq => by
      rw [hQd] at hq
      obtain ⟨w, hw, rfl⟩ := List.mem_map.1 hq
      have := quota_rng ft fs.1 (frng w hw)
      omega
    have hrest : restOf t ws = t - Q.sum := by rw [hQd]; rfl
    rw [← hQd, ← hRd] at hSO
    simp -dsimp -implicitDefEqProofs
    refine loop_rule (ι := Nat) (fun k => k ≤ ws.length) (fun k => stOf [(0, .c (.i t)), (1, .c (.sl 1 (ws.map ienc))), (5, .own 13 1 k), (6, .own 14 1 k), (7, .c (.i ws.sum)), (9, .c (.i (t - sumTo Q k))), (10, .c (.i k))]
      [(13, .row 1 ((pre Q k).map ienc)), (14, .row 1 ((pre R k).map ienc))]) (fun k => ws.length - k) 0 (by simp) (by apply le_of <;> simp [AV.refs1, AV.ref0, Obj.refs1, sumTo_zero, pre_zero]) ?_
    rintro k hk
    rcases Nat.lt_or_ge k ws.length with hlt | hge
    · obtain ⟨w, hw⟩ : ∃ x, ws[k]? = some x := ⟨_, List.getElem?_eq_getElem hlt⟩
      have g1 := (List.getElem?_eq_some_iff.1 hw).2
      have hQ : Q[k]? = some (quota t ws.sum w) := by rw [hQd]; simp [hw]
      have hR : R[k]? = some (remn t ws.sum w) := by rw [hRd]; simp [hw]
      have q1 := quota_rng ft fs.1 (frng w (List.mem_of_getElem? hw))
      have hsum := sumTo_succ hQ
      have hb1 := sum_bnd (l := pre Q k) (m := 1000000000000000) fun x hx => hQr x (List.mem_of_mem_take hx)
      have hbl : (pre Q k).length = k := pre_len (by omega)
      have hbr : (pre R k).length = k := pre_len (by omega)
      have hb1' : 0 ≤ sumTo Q k ∧ sumTo Q k ≤ 12000000000000000 := by
        have : sumTo Q k = (pre Q k).sum := rfl
        omega
      have hqd : (t * w).tdiv ws.sum = quota t ws.sum w := rfl
      have hrd : (t * w).tmod ws.sum = remn t ws.sum w := rfl
      have tQ := pre_succ hQ
      have tR := pre_succ hR
      generalize pre Q k = A at *
      generalize pre R k = B at *
      have hgk : (A.map ienc ++ [[C.i (quota t ws.sum w)]])[k]? = some [C.i (quota t ws.sum w)] := by rw [List.getElem?_append_right (by simp [hbl])]; simp [hbl]
      have hkl : k < A.length + 1 := by omega
      simp -dsimp -implicitDefEqProofs [hw, g1, lt_t hlt, hlt, hqd, hrd, hbl, hbr, hgk]
      refine fun hlen => ⟨by unfold inI; omega, by omega, by unfold inI; omega, by omega, by unfold inI; omega, by omega, by unfold inI; omega, by omega, by omega, by unfold inI; omega, by unfold inI; omega, k + 1, hlt, by omega, ?_⟩
      apply le_of <;> simp [AV.refs1, AV.ref0, Obj.refs1, tQ, tR, hsum, hbl, hbr]
      omega
    · have : k = ws.length := by omega
      subst this
      simp -dsimp -implicitDefEqProofs [pre_all (l := Q) (k := ws.length) (by omega), pre_all (l := R) (k := ws.length) (by omega)]
      rw [sumTo_all (by omega), ← hrest]
      have hn0 : ((restOf t ws).toNat : Int) = restOf t ws := Int.toNat_of_nonneg hlft.1
      have hnl : (restOf t ws).toNat < ws.length := by omega
      have hP : Picks t ws (restOf t ws).toNat Q R := ⟨hQl, hRl, hSO.symm, by omega, fun x hx => by have := hQr x hx; omega⟩
      rw [← hn0]
      generalize (restOf t ws).toNat = n at *
      refine fun hlen => loop_rule (ι := Nat × List Int × List Int) (fun p => Picks t ws p.1 p.2.1 p.2.2) (fun p => stOf [(5, .own 13 1 ws.length), (6, .own 14 1 ws.length), (9, .c (.i p.1))] [(13, .row 1 (p.2.1.map ienc)), (14, .row 1 (p.2.2.map ienc))]) (fun p => p.1) (n, Q, R) hP (by apply le_of <;> simp [AV.refs1, AV.ref0, Obj.refs1]) ?_
      rintro ⟨m, out, rest⟩ hM
      simp only at hM
      have hlo := hM.lo; have hlr := hM.lr
      rcases Nat.eq_zero_or_pos m with e | e
      · subst e
        have hall := hM.all
        rw [shareF] at hall
        simp -dsimp -implicitDefEqProofs
        rw [List.take_of_length_le (by rw [List.length_map, hlo]; exact Nat.le_refl _), hall]
      · obtain ⟨m, rfl⟩ : ∃ j, m = j + 1 := ⟨m - 1, by omega⟩
        have hN := hM.next h1
        simp -dsimp -implicitDefEqProofs
        refine loop_rule (ι := Nat) (fun k => 1 ≤ k ∧ k ≤ ws.length) (fun k => stOf [(5, .own 13 1 ws.length), (6, .own 14 1 ws.length), (9, .c (.i ((m + 1 : Nat) : Int))), (11, .c (.i (amaxTo rest k : Nat))), (12, .c (.i k))] [(13, .row 1 (out.map ienc)), (14, .row 1 (rest.map ienc))]) (fun k => ws.length - k) 1 ⟨Nat.le_refl _, h1⟩ (by apply le_of <;> simp [AV.refs1, AV.ref0, Obj.refs1, amaxTo_succ, amaxTo_zero]) ?_
        rintro k ⟨hk1, hk⟩
        rcases Nat.lt_or_ge k ws.length with hlt | hge
        · obtain ⟨x, hx⟩ : ∃ x, rest[k]? = some x := ⟨_, List.getElem?_eq_getElem (by omega)⟩
          have i1 := amaxTo_lt (l := rest) (by omega) (k := k) (by omega)
          obtain ⟨p, hp⟩ : ∃ p, rest[amaxTo rest k]? = some p := ⟨_, List.getElem?_eq_getElem i1⟩
          have g1 := (List.getElem?_eq_some_iff.1 hx).2
          have g2 := (List.getElem?_eq_some_iff.1 hp).2
          have e1 : amaxTo rest (k + 1) = if p < x then k else amaxTo rest k := by rw [amaxTo_succ, vAt_eq hx, vAt_eq hp]
          generalize amaxTo rest k = u at *
          have j1 : ((u : Nat) : Int) < (ws.length : Int) := by omega
          have hlt' : k < rest.length := by omega
          simp -dsimp -implicitDefEqProofs [hx, hp, g1, g2, i1, hlt, hlt', j1, lt_t hlt]
          refine fun hl => ⟨fun c1 => ?_, fun c1 => ?_⟩
          all_goals
            refine ⟨inI_succ hlt hl, k + 1, ⟨by omega, hlt⟩, by omega, ?_⟩
            apply le_of <;> simp [AV.refs1, AV.ref0, Obj.refs1, e1] <;> (repeat' split) <;> omega
        · have : k = ws.length := by omega
          subst this
          have i1 := amaxTo_lt (l := rest) (by omega) (k := ws.length) (by omega)
          have hN' := hN
          generalize amaxTo rest ws.length = u at *
          obtain ⟨v, hv⟩ : ∃ p, out[u]? = some p := ⟨_, List.getElem?_eq_getElem (by omega)⟩
          obtain ⟨p, hp⟩ : ∃ p, rest[u]? = some p := ⟨_, List.getElem?_eq_getElem i1⟩
          have g1 := (List.getElem?_eq_some_iff.1 hv).2
          have g2 := (List.getElem?_eq_some_iff.1 hp).2
          rw [vAt_eq hv] at hN
          have hb := hM.rng v (List.mem_of_getElem? hv)
          have hfew := hM.few
          have j1 : u < ws.length := by omega
          have j2 : u < out.length := by omega
          have s1 : (out.map ienc).set u [.i (v + 1)] = (out.set u (v + 1)).map ienc := by rw [List.map_set]
          have s2 : (rest.map ienc).set u [.i (-1)] = (rest.set u (-1)).map ienc := by rw [List.map_set]
          generalize out.set u (v + 1) = out' at *
          generalize rest.set u (-1) = rest' at *
          simp -dsimp -implicitDefEqProofs [hv, hp, g1, g2, j1, j2, i1, s1, s2, hlo, hlr]
          have hmm : ((m + 1 : Nat) : Int) = m + 1 := by simp
          rw [hmm] at hb
          refine fun _ => ⟨by unfold inI; omega, by unfold inI; omega, m, out', rest', hN, by omega, ?_⟩
          apply le_of <;> simp [AV.refs1, AV.ref0, Obj.refs1]

end Go.Proofs.Ytfmgadchjiplmaa
