/- Contracts of functions of this seat: what each answers, as plain Lean. -/
import Derived.Test.YtfmgadchjiplmaaMT23
import Derived.Test.YtfmgadchjiplmaaMT24
set_option linter.all false
namespace Go.Proofs.Ytfmgadchjiplmaa
open Go.RowKit

/-! Settled: the law. -/
theorem bytes_of {x : List Nat} (h : (C.sl 1 (x.map nenc)).WF) : ∃ code : List UInt8, x.map nenc = code.map uenc := by
  simp only [C.WF] at h
  refine ⟨x.map fun n => UInt8.ofNat n, ?_⟩
  rw [List.map_map]
  apply List.map_congr_left
  intro n hn
  have h1 := (h.2 _ (List.mem_map_of_mem hn)).2 (.u n) (by simp [nenc])
  simp only [C.WF] at h1
  simp [nenc, uenc, Nat.mod_eq_of_lt h1]
theorem big_c (code : List UInt8) : PureF Try.prog n_laws_big [.c (.sl 1 (code.map uenc))] (.c (.b (decide (1048576 < code.length)))) := by
  refine pure_of h_laws_big (by simp) fun hwf => ?_
  simp -dsimp -implicitDefEqProofs [c_laws_big]
  intro _
  omega
theorem FnSettled_c (x0 : List Nat) : PureF Try.prog n_laws_FnSettled [.c (.sl 1 (x0.map nenc))] (.c (.b true)) := by
  refine pure_of h_laws_FnSettled (by simp) fun hwf => ?_
  obtain ⟨code, hcode⟩ := bytes_of (x := x0) hwf.1
  rw [hcode]
  clear hwf
  simp -dsimp -implicitDefEqProofs [c_laws_FnSettled]
  first
    | refine call_lend (big_c code) (by simp) rfl ?_
    | refine call_pure (big_c code) (by simp) rfl ?_
    | refine ⟨_, _, big_c code, by simp, .inr rfl, ?_⟩
    | refine ⟨_, _, big_c code, by simp, .inl rfl, ?_⟩
    | refine callE_pure (big_c code) (by simp) (.inr rfl) ?_
    | refine callE_pure (big_c code) (by simp) (.inl rfl) ?_
  simp -dsimp -implicitDefEqProofs
  intro hl
  obtain ⟨d1, d2⟩ := drawnBook_ok code
  have f := settledFacts d1 (fun e he => (d2 e he).1) (fun e he => (d2 e he).2)
  have hBo := BalancesOf_impl (drawnBook code)
  have hbl := BalancesOf_len (drawnBook code)
  first
    | refine call_own (DrawBook_o code hl) (by simp ) (by simp [AV.closed, AV.closed1, C.closed]) (by simp [freshO]) ?_
    | refine callE_own (DrawBook_o code hl) (by simp ) (by simp [AV.closed, AV.closed1, C.closed]) (by simp [freshO]) ?_
  simp -dsimp -implicitDefEqProofs
  generalize drawnBook code = es at *
  first
    | refine call_own (hBo) (by simp [take_full]) (by simp [AV.closed, AV.closed1, C.closed]) (by simp [freshO]) ?_
    | refine callE_own (hBo) (by simp [take_full]) (by simp [AV.closed, AV.closed1, C.closed]) (by simp [freshO]) ?_
  simp -dsimp -implicitDefEqProofs
  have hS := SettleUp_impl (BalancesOf es) 50 (by omega)
  first
    | refine call_own (hS) (by simp [take_full]) (by simp [AV.closed, AV.closed1, C.closed]) (by simp [freshO]) ?_
    | refine callE_own (hS) (by simp [take_full]) (by simp [AV.closed, AV.closed1, C.closed]) (by simp [freshO]) ?_
  simp -dsimp -implicitDefEqProofs
  obtain ⟨f1, f2, f3, f4⟩ := f
  have hsl := SettleUp_len (BalancesOf es) 50
  generalize SettleUp (BalancesOf es) 50 = L at *
  have hP := PostEntries_impl es L (by omega) (by omega)
  rw [f2] at hP
  have hB2 := BalancesOf_impl (es ++ L)
  generalize es ++ L = all at *
  first
    | refine call_own (hP) (by simp [take_full]) (by simp [AV.closed, AV.closed1, C.closed]) (by simp [freshO]) ?_
    | refine callE_own (hP) (by simp [take_full]) (by simp [AV.closed, AV.closed1, C.closed]) (by simp [freshO]) ?_
  simp -dsimp -implicitDefEqProofs
  first
    | refine call_own (hB2) (by simp [take_full]) (by simp [AV.closed, AV.closed1, C.closed]) (by simp [freshO]) ?_
    | refine callE_own (hB2) (by simp [take_full]) (by simp [AV.closed, AV.closed1, C.closed]) (by simp [freshO]) ?_
  simp -dsimp -implicitDefEqProofs
  generalize BalancesOf all = after at *
  refine loop_rule (ι := Nat) (fun k => k ≤ after.length) (fun k => stOf [(5, .own 17 5 L.length), (7, .c (.b true)), (8, .own 25 1 after.length), (9, .c (.i k))] [(17, .row 5 (L.map Entry.enc)), (25, .row 1 (after.map ienc))]) (fun k => after.length - k) 0 (by simp) (by apply le_of <;> simp [AV.refs1, AV.ref0, Obj.refs1]) ?_
  rintro k hk
  rcases Nat.lt_or_ge k after.length with hlt | hge
  · obtain ⟨x, hx⟩ : ∃ x, after[k]? = some x := ⟨_, List.getElem?_eq_getElem hlt⟩
    have g1 := (List.getElem?_eq_some_iff.1 hx).2
    have h0 := f4 x (List.mem_of_getElem? hx)
    subst h0
    simp -dsimp -implicitDefEqProofs [hx, g1, lt_t hlt, hlt]
    refine fun _ => ⟨by unfold inI; omega, k + 1, hlt, by omega, ?_⟩
    apply le_of <;> simp [AV.refs1, AV.ref0, Obj.refs1]
  · simp -dsimp -implicitDefEqProofs [lt_f hge]
    exact fun _ _ => ⟨fun _ _ => by omega, by omega⟩

end Go.Proofs.Ytfmgadchjiplmaa
