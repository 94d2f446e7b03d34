/- Contracts of functions of this seat: what each answers, as plain Lean. -/
import Derived.Test.YtfmgadchjiplmaaMT27
import Derived.Test.YtfmgadchjiplmaaMA8
set_option linter.all false
namespace Go.Proofs.Ytfmgadchjiplmaa
open Go.RowKit

/-! Sharing out. -/
def qTo (t s : Int) (ws : List Int) (k : Nat) : List Int := (ws.take k).map (quota t s)
theorem okShare_no {t : Int} {ws : List Int} (h : okShare t ws = false) : ShareOut t ws = [] := by simp [ShareOut, h]
theorem wsum_rng {ws : List Int} {k : Nat} (h12 : ws.length ≤ 12) (h : ∀ x ∈ ws.take k, inRange x 0 1000000 = true) : 0 ≤ sumTo ws k ∧ sumTo ws k ≤ 12000000 := by
  have := sum_bnd (l := ws.take k) (m := 1000000) fun x hx => inRange_iff.1 (h x hx)
  have e : (ws.take k).length ≤ 12 := by rw [List.length_take]; omega
  unfold sumTo
  omega
/-- The state of the shares at round k: those told, then zeros. -/
def qPad (t s : Int) (ws : List Int) (k : Nat) : List (List C) := partly ienc [.i 0] (ws.map (quota t s)) k
def oPad (n k : Nat) : List (List C) := partly nzenc [.i 0] (List.range n) k
theorem shTo_rng {Q : List Int} {o : List Nat} {m : Int} (hm : 0 ≤ m) (hQ : ∀ x ∈ Q, 0 ≤ x ∧ x ≤ m) : ∀ (j : Nat), ∀ x ∈ shTo Q o j, 0 ≤ x ∧ x ≤ m + j
  | 0, x, hx => by have := hQ x hx; omega
  | j + 1, x, hx => by
    have ih := shTo_rng hm hQ (o := o) j
    have e2 : ((j + 1 : Nat) : Int) = j + 1 := by simp
    cases h : o[j]? with
    | none =>
      have hl : o.length ≤ j := by simpa using h
      have e : shTo Q o (j + 1) = shTo Q o j := by unfold shTo; rw [List.take_of_length_le (by omega), List.take_of_length_le hl]
      rw [e] at hx
      have := ih x hx
      omega
    | some a =>
      rw [shTo_succ h] at hx
      rcases List.mem_or_eq_of_mem_set hx with hx | rfl
      · have := ih x hx; omega
      · have : 0 ≤ vAt (shTo Q o j) a ∧ vAt (shTo Q o j) a ≤ m + j := by
          unfold vAt
          cases hv : (shTo Q o j)[a]? with
          | none => simp; omega
          | some v => exact ih v (List.mem_of_getElem? hv)
        omega
theorem ShareOut_impl (t : Int) (ws : List Int) : OwnF Try.prog n_impl_ShareOut [.c (.i t), .c (.sl 1 (ws.map ienc))] (.c (.ow 1 ((ShareOut t ws).map ienc))) := by
  refine own_of h_impl_ShareOut (by simp) fun hwf => ?_
  simp -dsimp -implicitDefEqProofs [c_impl_ShareOut]
  first
    | refine call_lend (inRange_impl t 0 1000000000) (by simp) rfl ?_
    | refine call_pure (inRange_impl t 0 1000000000) (by simp) rfl ?_
    | refine ⟨_, _, inRange_impl t 0 1000000000, by simp, .inr rfl, ?_⟩
    | refine ⟨_, _, inRange_impl t 0 1000000000, by simp, .inl rfl, ?_⟩
    | refine callE_pure (inRange_impl t 0 1000000000) (by simp) (.inr rfl) ?_
    | refine callE_pure (inRange_impl t 0 1000000000) (by simp) (.inl rfl) ?_
  cases ht : inRange t 0 1000000000 with
  | false => simp -dsimp -implicitDefEqProofs; rw [okShare_no (by simp [okShare, ht])]
  | true =>
  simp -dsimp -implicitDefEqProofs
  refine fun hlen => ⟨fun h1 => ?_, fun h1 => ?_⟩
  rotate_left
  · rw [okShare_no (by simp [okShare]; omega)]
  refine fun _ => ⟨fun h12 => by rw [okShare_no (by simp [okShare]; omega)], fun h12 => ?_⟩
  have h12 : ws.length ≤ 12 := by omega
  have h1 : 1 ≤ ws.length := by omega
  refine fun _ => loop_rule (ι := Nat) (fun k => k ≤ ws.length ∧ ∀ x ∈ ws.take k, inRange x 0 1000000 = true) (fun k => stOf [(2, .box 2 0), (3, .box 3 0), (5, .box 5 0), (27, .c (.sl 1 (ws.map ienc))), (28, .c (.i ws.length)), (29, .c (.i k))] [(2, .box [.c (.i t)]), (3, .box [.c (.sl 1 (ws.map ienc))]), (5, .box [.c (.i (sumTo ws k))])]) (fun k => ws.length - k) 0 (by simp) (by apply le_of <;> simp [AV.refs1, AV.ref0, Obj.refs1, sumTo_zero]) ?_
  rintro k ⟨hk, hall⟩
  rcases Nat.lt_or_ge k ws.length with hlt | hge
  · obtain ⟨x, hx⟩ : ∃ x, ws[k]? = some x := ⟨_, List.getElem?_eq_getElem hlt⟩
    have g1 := (List.getElem?_eq_some_iff.1 hx).2
    simp -dsimp -implicitDefEqProofs [hx, g1, lt_t hlt, hlt]
    first
      | refine call_lend (inRange_impl x 0 1000000) (by simp) rfl ?_
      | refine call_pure (inRange_impl x 0 1000000) (by simp) rfl ?_
      | refine ⟨_, _, inRange_impl x 0 1000000, by simp, .inr rfl, ?_⟩
      | refine ⟨_, _, inRange_impl x 0 1000000, by simp, .inl rfl, ?_⟩
      | refine callE_pure (inRange_impl x 0 1000000) (by simp) (.inr rfl) ?_
      | refine callE_pure (inRange_impl x 0 1000000) (by simp) (.inl rfl) ?_
    cases hr : inRange x 0 1000000 with
    | false => simp -dsimp -implicitDefEqProofs; rw [okShare_no (by have := all_false (p := fun w => inRange w 0 1000000) hx hr; simp [okShare, this])]
    | true =>
      simp -dsimp -implicitDefEqProofs
      have hall' := all_take_succ (p := fun n => inRange n 0 1000000) hx hall hr
      have hs := wsum_rng h12 hall'
      rw [sumTo_succ hx] at hs
      refine ⟨by unfold inI; omega, inI_succ hlt hlen, k + 1, ⟨hlt, hall'⟩, by omega, ?_⟩
      apply le_of <;> simp [AV.refs1, AV.ref0, Obj.refs1, sumTo_succ hx]
  · have hall2 := all_of_take (p := fun n => inRange n 0 1000000) hge hall
    simp -dsimp -implicitDefEqProofs [lt_f hge]
    rw [sumTo_all hge]
    refine ⟨fun h0 => by rw [okShare_no (by simp [okShare, h0])], fun h0 => ?_⟩
    have hok : okShare t ws = true := by simp [okShare, ht, h12, h1, hall2, h0]
    have f := shareFacts hok
    have hlft := left_rng f
    rw [ShareOut_is hok]
    have ft := f.tot; have fs := f.sum; have frng := f.rng
    refine fun _ => ⟨by omega, fun _ => ⟨by omega, fun _ => ?_⟩⟩
    obtain ⟨Q, hQd⟩ : ∃ Q, Q = ws.map (quota t ws.sum) := ⟨_, rfl⟩
    have hQl : Q.length = ws.length := by rw [hQd, List.length_map]
    have hQr : ∀ q ∈ Q, 0 ≤ q ∧ q ≤ 1000000000000000 := fun q hq => by
      rw [hQd] at hq
      obtain ⟨w, hw, rfl⟩ := List.mem_map.1 hq
      have := quota_rng ft fs.1 (frng w hw)
      omega
    have hrest : restOf t ws = t - Q.sum := by rw [hQd]; rfl
    rw [← hQd]
    refine loop_rule (ι := Nat) (fun k => k ≤ ws.length) (fun k => stOf [(2, .box 2 0), (3, .box 3 0), (5, .box 5 0), (8, .own 44 1 ws.length), (9, .own 47 1 ws.length), (10, .c (.i (t - sumTo Q k))), (49, .c (.sl 1 (ws.map ienc))), (50, .c (.i ws.length)), (51, .c (.i k))]
      [(2, .box [.c (.i t)]), (3, .box [.c (.sl 1 (ws.map ienc))]), (5, .box [.c (.i ws.sum)]), (44, .row 1 (partly ienc [.i 0] Q k)), (47, .row 1 (partly nzenc [.i 0] (List.range ws.length) k))]) (fun k => ws.length - k) 0 (by simp) (by apply le_of <;> simp [AV.refs1, AV.ref0, Obj.refs1, sumTo_zero, partly_zero, hQl]) ?_
    clear hall hk hge k
    rintro k hk
    rcases Nat.lt_or_ge k ws.length with hlt | hge
    · obtain ⟨w, hw⟩ : ∃ x, ws[k]? = some x := ⟨_, List.getElem?_eq_getElem hlt⟩
      have g1 := (List.getElem?_eq_some_iff.1 hw).2
      have hQ : Q[k]? = some (quota t ws.sum w) := by rw [hQd]; simp [hw]
      have hO : (List.range ws.length)[k]? = some k := by simp [hlt]
      have q1 := quota_rng ft fs.1 (frng w (List.mem_of_getElem? hw))
      have hs1 := partly_set (f := ienc) (z := [.i 0]) hQ
      have hs2 := partly_set (f := nzenc) (z := [.i 0]) hO
      have hl1 := partly_len (f := ienc) (z := [.i 0]) (es := Q) (k := k) (by omega)
      have hl2 := partly_len (f := nzenc) (z := [.i 0]) (es := List.range ws.length) (k := k) (by simp; omega)
      have hd1 : ((partly ienc [.i 0] Q k)[k]?.getD []).set 0 (.i (quota t ws.sum w)) = [.i (quota t ws.sum w)] := by
        have := partly_get (f := ienc) (z := [.i 0]) (n := 1) (es := Q) (k := k) rfl (fun _ => rfl) (by omega)
        obtain ⟨x, hx⟩ := List.length_eq_one_iff.1 this
        rw [hx]; rfl
      have hd2 : ((partly nzenc [.i 0] (List.range ws.length) k)[k]?.getD []).set 0 (.i k) = [.i k] := by
        have := partly_get (f := nzenc) (z := [.i 0]) (n := 1) (es := List.range ws.length) (k := k) rfl (fun _ => rfl) (by simp; omega)
        obtain ⟨x, hx⟩ := List.length_eq_one_iff.1 this
        rw [hx]; rfl
      rw [List.length_range] at hl2
      have hsum := sumTo_succ hQ
      have hb1 := sum_bnd (l := Q.take k) (m := 1000000000000000) fun x hx => hQr x (List.mem_of_mem_take hx)
      have hbl : (Q.take k).length ≤ 12 := by rw [List.length_take]; omega
      have hb1' : 0 ≤ sumTo Q k ∧ sumTo Q k ≤ 12000000000000000 := by unfold sumTo; omega
      have hqd : (t * w).tdiv ws.sum = quota t ws.sum w := rfl
      have hs1' : (partly ienc [.i 0] Q k).set k [.i (quota t ws.sum w)] = partly ienc [.i 0] Q (k + 1) := hs1
      have hs2' : (partly nzenc [.i 0] (List.range ws.length) k).set k [.i k] = partly nzenc [.i 0] (List.range ws.length) (k + 1) := hs2
      have hself : (partly ienc [.i 0] Q (k + 1))[k]? = some [.i (quota t ws.sum w)] := by rw [← hs1']; exact List.getElem?_set_self (by omega)
      generalize partly ienc [.i 0] Q k = A at *
      generalize hA' : partly ienc [.i 0] Q (k + 1) = A' at *
      generalize partly nzenc [.i 0] (List.range ws.length) k = B at *
      generalize hB' : partly nzenc [.i 0] (List.range ws.length) (k + 1) = B' at *
      have hk1 : k < A.length := by omega
      have hk2 : k < B.length := by omega
      have hd1' : A[k].set 0 (C.i (quota t ws.sum w)) = [C.i (quota t ws.sum w)] := by rw [List.getElem?_eq_getElem hk1] at hd1; exact hd1
      have hd2' : B[k].set 0 (C.i k) = [C.i k] := by rw [List.getElem?_eq_getElem hk2] at hd2; exact hd2
      simp -dsimp -implicitDefEqProofs [hw, g1, lt_t hlt, hlt, hqd, hl1, hl2, hd1', hd2', hs1', hs2', hself, hQl]
      have hl3 : A'.length = Q.length := by rw [← hs1', List.length_set, hl1]
      refine ⟨by unfold inI; omega, by omega, by unfold inI; omega, by omega, ?_⟩
      refine ⟨by unfold inI; omega, ?_⟩
      refine ⟨by unfold inI; omega, k + 1, hlt, by omega, ?_⟩
      apply le_of <;> simp [AV.refs1, AV.ref0, Obj.refs1, hd1', hd2', hs1', hs2', hsum, hA', hB']
      omega
    · have hkn : k = ws.length := by omega
      subst hkn
      have p1 := partly_all (f := ienc) (z := [.i 0]) (es := Q) (k := ws.length) (by omega)
      have p2 := partly_all (f := nzenc) (z := [.i 0]) (es := List.range ws.length) (k := ws.length) (by simp)
      simp -dsimp -implicitDefEqProofs [p1, p2]
      rw [sumTo_all (by omega), ← hrest]
      have hord := ordFacts (ws.map (remn t ws.sum)) ws.length
      have hR : (ws.map (remn t ws.sum)).length = ws.length := by simp
      have hcmp := ShareCmp_c t ws.sum ws ft fs.1 fs.2 frng
      have hsort := sortStable_c (ws.map (remn t ws.sum)) ws.length h1 (by omega) n_impl_ShareOut_1 [.i t] [.sl 1 (ws.map ienc)] [.i ws.sum] ⟨Try.f217, Try.func217, rfl, by decide⟩ hcmp
      generalize ordI (ws.map (remn t ws.sum)) ws.length = o at *
      refine call_in1b (up := some (47, .row 1 (o.map nzenc))) hsort ⟨lnt_fn ⟨lnt1_box (by simp) (by simp [upIds]), lnt1_box (by simp) (by simp [upIds]), lnt1_box (by simp) (by simp [upIds]), trivial⟩, trivial⟩ (by rw [cw_pos (by rw [List.length_map, hord.len]; omega)]; simp [C.closed, nzenc]) rfl (ioC_row (rows := (List.range ws.length).map nzenc) (by simp) rfl rfl (by simp) (by simp [hord.len]) rfl rfl) ?_
      have hp1 : ∀ x ∈ o, x < Q.length := fun x hx => by have := hord.lt x hx; omega
      simp -dsimp -implicitDefEqProofs
      have hn0 : ((restOf t ws).toNat : Int) = restOf t ws := Int.toNat_of_nonneg hlft.1
      have hnl : (restOf t ws).toNat < ws.length := by omega
      rw [← hn0]
      generalize (restOf t ws).toNat = n at *
      have hshl : ∀ j : Nat, (shTo Q o j).length = ws.length := fun j => by rw [shTo_len, hQl]
      refine loop_rule (ι := Nat) (fun j => j ≤ n) (fun j => stOf [(8, .own 44 1 ws.length), (9, .own 47 1 ws.length), (10, .c (.i n)), (13, .c (.i j))] [(44, .row 1 ((shTo Q o j).map ienc)), (47, .row 1 (o.map nzenc))]) (fun j => n - j) 0 (by simp) (by apply le_of <;> simp [AV.refs1, AV.ref0, Obj.refs1, shTo_zero]) ?_
      rintro j hj
      rcases Nat.lt_or_ge j n with hlt | hge
      · have hjo : j < o.length := by rw [hord.len]; omega
        obtain ⟨a, ha⟩ : ∃ a, o[j]? = some a := ⟨_, List.getElem?_eq_getElem hjo⟩
        have ga := (List.getElem?_eq_some_iff.1 ha).2
        have hal := hord.lt a (List.mem_of_getElem? ha)
        have hss := shTo_succ (out := Q) ha
        have hl := hshl j
        have hbd := shTo_rng (o := o) (m := 1000000000000000) (by omega) hQr j
        generalize shTo Q o j = S at *
        obtain ⟨v, hv⟩ : ∃ v, S[a]? = some v := ⟨_, List.getElem?_eq_getElem (by omega)⟩
        have gv := (List.getElem?_eq_some_iff.1 hv).2
        have hvv := vAt_eq hv
        have hb := hbd v (List.mem_of_getElem? hv)
        have hs4 : (S.map ienc).set a [.i (v + 1)] = (shTo Q o (j + 1)).map ienc := by rw [hss, hvv, List.map_set]
        have hln : j < ws.length := by omega
        have hal2 : a < S.length := by omega
        simp -dsimp -implicitDefEqProofs [ha, ga, lt_t hlt, hlt, hjo, nzenc, hv, gv, hal, hal2, hln, hs4]
        refine ⟨by unfold inI; omega, by unfold inI; omega, j + 1, hlt, by omega, ?_⟩
        apply le_of <;> simp [AV.refs1, AV.ref0, Obj.refs1]
      · have : j = n := by omega
        subst this
        simp -dsimp -implicitDefEqProofs
        rw [List.take_of_length_le (by rw [List.length_map, hshl]; exact Nat.le_refl _)]
theorem ShareOut_len (t : Int) (ws : List Int) : (ShareOut t ws).length ≤ 12 := by
  cases h : okShare t ws with
  | false => rw [okShare_no h]; simp
  | true => rw [ShareOut_is h, shTo_len, List.length_map]; exact (shareFacts h).len.2
theorem ShareOut_implP (t : Int) (ws : List Int) : PureF Try.prog n_impl_ShareOut [.c (.i t), .c (.sl 1 (ws.map ienc))] (.c (.sl 1 ((ShareOut t ws).map ienc))) := (ShareOut_impl t ws).pure (by simp)

end Go.Proofs.Ytfmgadchjiplmaa
