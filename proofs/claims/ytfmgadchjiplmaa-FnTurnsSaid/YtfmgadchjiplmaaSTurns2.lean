/- What the law FnTurns stands on, part 2: contracts of functions, what each answers as plain Lean. -/
import Derived.Test.YtfmgadchjiplmaaSTurns1
set_option linter.all false
namespace Go.Proofs.Ytfmgadchjiplmaa
open Go.RowKit
open Go.ChangeShapes Go.WideShapes

theorem callV_ok {code : List UInt8} {id : Int} {p : Nat × Int} (h : 1 ≤ id ∧ id ≤ 9000) : CallOk (callV code id p) = true ∧ (callV code id p).small ∧ (callV code id p).Since ≤ 100 := by
  have r1 := age_rng (pickV_mem (code := code) (l := ageL) (p := callP1 code id p) (by simp [ageL]))
  have r2 := book_rng (pickV_mem (code := code) (l := bookL) (p := callP2 code id p) (by simp [bookL]))
  refine ⟨?_, trainV_small, by simp only [callV]; omega⟩
  simp only [CallOk, callV, Bool.and_eq_true]
  exact ⟨⟨trainV_ok h, inRange_iff.2 ⟨by omega, by omega⟩⟩, inRange_iff.2 ⟨by omega, by omega⟩⟩
theorem callS_all {code : List UInt8} {n : Nat} {p : Nat × Int} (hn : n ≤ 6) : ∀ j : Nat, j ≤ n → ∀ c ∈ callS code n p j, CallOk c = true ∧ c.small ∧ c.Since ≤ 100
  | 0, _, c, h => by simp [callS] at h
  | j + 1, hj, c, h => by
    rcases List.mem_append.1 h with h | h
    · exact callS_all hn j (by omega) c h
    · simp only [List.mem_singleton] at h
      subst h
      exact callV_ok ⟨by omega, by omega⟩
theorem drawn_all {code : List UInt8} : (drawnCalls code).length ≤ 6 ∧ ∀ c ∈ drawnCalls code, CallOk c = true ∧ c.small ∧ c.Since ≤ 100 := by
  have h := (drawnN_eq code).2
  exact ⟨by unfold drawnCalls; rw [callS_len]; exact h, callS_all h _ (Nat.le_refl _)⟩
theorem RankOf_ne {c : CallT} (h : CallOk c = true ∧ c.small ∧ c.Since ≤ 100) : RankOf c 100 ≠ 3 := by
  have cf := callFacts h.1
  have f1 := cf.cls; have f2 := cf.snc
  unfold RankOf
  rw [if_pos ⟨h.1, inRange_iff.2 ⟨h.2.2, by omega⟩⟩]
  have hq : 0 ≤ ((100 : Int) - c.Since).tdiv 20 := by rw [Int.tdiv_eq_ediv_of_nonneg (by omega)]; omega
  split
  · omega
  · split <;> omega
theorem ranked_all {list : List CallT} (h : ∀ c ∈ list, RankOf c 100 ≠ 3) : ∀ k : Nat, k ≤ list.length → ranked list 100 k = List.range k
  | 0, _ => rfl
  | k + 1, hk => by
    have hc : list[k]? = some list[k] := List.getElem?_eq_getElem hk
    rw [ranked_succ hc, if_neg (h _ (List.mem_of_getElem? hc)), ranked_all h k (by omega), List.range_succ]
theorem order_all {list : List CallT} (h : ∀ c ∈ list, RankOf c 100 ≠ 3) : (orderC list 100).Perm (List.range list.length) := by
  have := sorted_perm (lt := lessC (cmpC list 100)) (xs := ranked list 100 list.length)
  have e := ranked_all h _ (Nat.le_refl _)
  unfold orderC
  rw [e] at this ⊢
  exact this
def upsTo (list : List CallT) (k : Nat) : Nat := ((list.take k).filter fun c => c.Train.Up).length
theorem upsTo_succ {list : List CallT} {k : Nat} {c : CallT} (h : list[k]? = some c) : upsTo list (k + 1) = upsTo list k + if c.Train.Up then 1 else 0 := by
  unfold upsTo
  rw [List.take_succ, h, List.filter_append]
  cases hu : c.Train.Up <;> simp [hu]
theorem upsTo_le {list : List CallT} {k : Nat} : upsTo list k ≤ list.length := by
  unfold upsTo
  refine Nat.le_trans (List.length_filter_le _ _) ?_
  rw [List.length_take]; omega
theorem ups_none {list : List CallT} {c : CallT} (hc : c ∈ list) (h : upsTo list list.length = 0) : c.Train.Up = false := by
  unfold upsTo at h
  rw [List.take_length, List.length_eq_zero_iff, List.filter_eq_nil_iff] at h
  simpa using h c hc
theorem ups_all {list : List CallT} {c : CallT} (hc : c ∈ list) (h : upsTo list list.length = list.length) : c.Train.Up = true := by
  unfold upsTo at h
  rw [List.take_length, List.length_filter_eq_length_iff] at h
  simpa using h c hc
theorem ups_eq0 {list : List CallT} (h : ∀ c ∈ list, c.Train.Up = false) : upsTo list list.length = 0 := by
  unfold upsTo
  rw [List.take_length, List.length_eq_zero_iff, List.filter_eq_nil_iff]
  intro c hc; simp [h c hc]
theorem ups_eqN {list : List CallT} (h : ∀ c ∈ list, c.Train.Up = true) : upsTo list list.length = list.length := by
  unfold upsTo
  rw [List.take_length, List.length_filter_eq_length_iff]
  exact h
structure SideFacts (list : List CallT) (t : Turn) (u : Bool) : Prop where
  mem : ∃ c ∈ list, c.Train.Up = u
  turn : u = t.Up → 3 ≤ t.Count → ∀ c ∈ list, c.Train.Up = u
theorem sideFacts {list : List CallT} {t : Turn} (h : ∀ c ∈ list, RankOf c 100 ≠ 3) (hn : 1 ≤ list.length) (ht : TurnOk t = true) :
    NextSide list t 100 = (sideOf list (orderC list 100) t, true) ∧ SideFacts list t (sideOf list (orderC list 100) t) := by
  have hp := order_all h
  have hol : (orderC list 100).length = list.length := by rw [hp.length_eq, List.length_range]
  refine ⟨by unfold NextSide; rw [if_neg (by simp [ht]; intro e; rw [e] at hol; simp at hol; omega)], ?_⟩
  generalize orderC list 100 = o at *
  obtain ⟨x, hx⟩ : ∃ x, o[0]? = some x := ⟨_, List.getElem?_eq_getElem (by omega)⟩
  have hmem : ∀ y, y ∈ o ↔ y < list.length := fun y => by rw [hp.mem_iff, List.mem_range]
  have hget : ∀ y ∈ o, ∃ c ∈ list, upAt list y = c.Train.Up := fun y hy =>
    have hy' := (hmem y).1 hy
    ⟨list[y], List.getElem_mem hy', upAt_get (List.getElem?_eq_getElem hy')⟩
  have hall : (∀ y ∈ o, upAt list y = upAt list x) → ∀ c ∈ list, c.Train.Up = upAt list x := fun ha c hc => by
    obtain ⟨i, hi⟩ := List.getElem?_of_mem hc
    rw [← upAt_get hi]
    exact ha i ((hmem i).2 (List.getElem?_eq_some_iff.1 hi).1)
  obtain ⟨c0, hc0, e0⟩ := hget x (List.mem_of_getElem? hx)
  unfold sideOf
  rw [hx, Option.getD_some]
  split
  · rename_i h1
    exact ⟨⟨c0, hc0, e0.symm⟩, fun h2 h3 => by
      rcases h1 with h1 | h1
      · exact absurd h2 h1
      · omega⟩
  · rename_i h1
    split
    · rename_i h2
      rw [List.all_eq_true] at h2
      exact ⟨⟨c0, hc0, e0.symm⟩, fun _ _ => hall fun y hy => by simpa using h2 y hy⟩
    · rename_i h2
      have : ∃ y ∈ o, upAt list y ≠ upAt list x := by
        simpa using h2
      obtain ⟨y, hy, hne⟩ := this
      obtain ⟨c1, hc1, e1⟩ := hget y hy
      refine ⟨⟨c1, hc1, ?_⟩, fun h3 _ => ?_⟩
      · rw [← e1]
        cases h4 : upAt list y <;> cases h5 : upAt list x <;> simp_all
      · simp only [not_or, ne_eq, Decidable.not_not] at h1
        rw [h1.1] at h3
        cases hh : t.Up <;> simp [hh] at h3
theorem bytes_of {x : List Nat} (h : (C.sl 1 (x.map nenc)).WF) : ∃ code : List UInt8, x.map nenc = code.map uenc := by
  simp only [C.WF] at h
  refine ⟨x.map fun n => UInt8.ofNat n, ?_⟩
  rw [List.map_map]
  apply List.map_congr_left
  intro n hn
  have h1 := (h.2 _ (List.mem_map_of_mem hn)).2 (.u n) (by simp [nenc])
  simp only [C.WF] at h1
  simp [nenc, uenc, Nat.mod_eq_of_lt h1]
theorem big_c (code : List UInt8) : PureF Try.prog n_laws_big [.c (.sl 1 (code.map uenc))] (.c (.b (decide (1048576 < code.length)))) := by
  refine pure_of h_laws_big (by simp) fun hwf => ?_
  simp -dsimp -implicitDefEqProofs [c_laws_big]
  intro _
  omega
theorem shrs_map {α : Type} {f g : α → List C} (h : ∀ x, shrl (f x) = some (g x)) : ∀ (l : List α), shrs (l.map f) = some (l.map g)
  | [] => rfl
  | x :: l => by simp [shrs, h x, shrs_map h l]
theorem callEo_shr (c : CallT) : shrl (callEo c) = some c.enc := by
  have : ∀ r, shrl (eoB r) = some (enc_BoatS r) := fun r => rfl
  simp [callEo, shrl, C.shr, shrs_map this]
theorem FnTurns_c (x0 : List Nat) : PureF Try.prog n_laws_FnTurns [.c (.sl 1 (x0.map nenc))] (.c (.b true)) := by
  refine pure_of h_laws_FnTurns (by simp) fun hwf => ?_
  obtain ⟨code, hcode⟩ := bytes_of (x := x0) hwf.1
  rw [hcode]
  clear hwf
  simp -dsimp -implicitDefEqProofs [c_laws_FnTurns]
  first
    | refine call_lend (big_c code) (by simp) rfl ?_
    | refine call_pure (big_c code) (by simp) rfl ?_
    | refine ⟨_, _, big_c code, by simp, .inr rfl, ?_⟩
    | refine ⟨_, _, big_c code, by simp, .inl rfl, ?_⟩
    | refine callE_pure (big_c code) (by simp) (.inr rfl) ?_
    | refine callE_pure (big_c code) (by simp) (.inl rfl) ?_
  simp -dsimp -implicitDefEqProofs
  intro hl
  obtain ⟨d1, d2⟩ := drawn_all (code := code)
  first
    | refine call_ownD (DrawCalls_o code hl) (by simp ) rfl (by simp [freshO]) ?_
    | refine callE_ownD (DrawCalls_o code hl) (by simp ) rfl (by simp [freshO]) ?_
  simp -dsimp -implicitDefEqProofs
  generalize drawnCalls code = L at *
  have hs : small_CallS L := ⟨by omega, fun c hc => (d2 c hc).2.1⟩
  have hr : ∀ c ∈ L, RankOf c 100 ≠ 3 := fun c hc => RankOf_ne (d2 c hc)
  refine loop_rule (ι := Nat × Nat × Bool) (fun p => p.1 ≤ 30 ∧ p.2.1 ≤ p.1 ∧ (p.1 = 0 → p.2.2 = false) ∧ (0 < upsTo L L.length → upsTo L L.length < L.length → p.2.1 ≤ 3)) (fun p => stOf [(3, .box 3 0), (4, .own 16 4 L.length), (5, .c (.i p.2.1)), (6, .c (.b p.2.2)), (7, .c (.i p.1))] [(3, .box [.c (.b p.2.2), .c (.i p.2.1)]), (16, .tr 4 0 (L.map callEo))]) (fun p => 30 - p.1) (0, 0, false) (by simp) (by apply le_of <;> simp [AV.refs1, AV.ref0, Obj.refs1]) ?_
  rintro ⟨k, run, last⟩ ⟨hk, hrun, h0, h3⟩
  simp only at hk hrun h0 h3
  have htk : TurnOk ⟨last, run⟩ = true := inRange_iff.2 ⟨by simp, by simp only; omega⟩
  have hshr : shrs (L.map callEo) = some (L.map CallT.enc) := shrs_map callEo_shr L
  rcases Nat.lt_or_ge k 30 with hlt | hge
  · have hk1 : ((k : Int) < 30) = True := by simp; omega
    rcases Nat.eq_zero_or_pos L.length with e | e
    · have e2 := List.length_eq_zero_iff.1 e
      subst e2
      have hns := NextSide_impl [] ⟨last, run⟩ 100 hs (by omega)
      have hn0 : NextSide [] ⟨last, run⟩ 100 = (false, false) := rfl
      rw [hn0] at hns
      simp -dsimp -implicitDefEqProofs [hk1]
      have hz : shrs [] = some [] := rfl
      first
        | refine call_lend (hns) (by simp [hz]) rfl ?_
        | refine call_pure (hns) (by simp [hz]) rfl ?_
        | refine ⟨_, _, hns, by simp [hz], .inr rfl, ?_⟩
        | refine ⟨_, _, hns, by simp [hz], .inl rfl, ?_⟩
        | refine callE_pure (hns) (by simp [hz]) (.inr rfl) ?_
        | refine callE_pure (hns) (by simp [hz]) (.inl rfl) ?_
      simp -dsimp -implicitDefEqProofs
      first
        | refine call_lend (TurnOk_impl ⟨last, run⟩) (by simp) rfl ?_
        | refine call_pure (TurnOk_impl ⟨last, run⟩) (by simp) rfl ?_
        | refine ⟨_, _, TurnOk_impl ⟨last, run⟩, by simp, .inr rfl, ?_⟩
        | refine ⟨_, _, TurnOk_impl ⟨last, run⟩, by simp, .inl rfl, ?_⟩
        | refine callE_pure (TurnOk_impl ⟨last, run⟩) (by simp) (.inr rfl) ?_
        | refine callE_pure (TurnOk_impl ⟨last, run⟩) (by simp) (.inl rfl) ?_
      simp -dsimp -implicitDefEqProofs
      exact htk
    · obtain ⟨n1, n2⟩ := sideFacts (t := ⟨last, run⟩) hr e htk
      have hns := NextSide_impl L ⟨last, run⟩ 100 hs (by omega)
      rw [n1] at hns
      generalize sideOf L (orderC L 100) ⟨last, run⟩ = u at *
      simp -dsimp -implicitDefEqProofs [hk1]
      first
        | refine call_lend (hns) (by simp [hshr, take_full]) rfl ?_
        | refine call_pure (hns) (by simp [hshr, take_full]) rfl ?_
        | refine ⟨_, _, hns, by simp [hshr, take_full], .inr rfl, ?_⟩
        | refine ⟨_, _, hns, by simp [hshr, take_full], .inl rfl, ?_⟩
        | refine callE_pure (hns) (by simp [hshr, take_full]) (.inr rfl) ?_
        | refine callE_pure (hns) (by simp [hshr, take_full]) (.inl rfl) ?_
      simp -dsimp -implicitDefEqProofs
      intro hlen
      refine ⟨by intro h; rw [h] at e; simp at e, fun _ => ?_⟩
      refine loop_rule (ι := Nat) (fun j => j ≤ L.length) (fun j => stOf [(3, .box 3 0), (4, .own 16 4 L.length), (5, .c (.i run)), (6, .c (.b last)), (7, .c (.i k)), (8, .c (.b u)), (10, .c (.i (upsTo L j))), (11, .c (.i j))] [(3, .box [.c (.b last), .c (.i run)]), (16, .tr 4 0 (L.map callEo))]) (fun j => L.length - j) 0 (by simp) (by apply le_of <;> simp [AV.refs1, AV.ref0, Obj.refs1, upsTo]) ?_
      rintro j hj
      have hul := upsTo_le (list := L) (k := j)
      rcases Nat.lt_or_ge j L.length with hltj | hgej
      · obtain ⟨c, hc⟩ : ∃ x, L[j]? = some x := ⟨_, List.getElem?_eq_getElem hltj⟩
        have gc := (List.getElem?_eq_some_iff.1 hc).2
        have hus := upsTo_succ hc
        simp -dsimp -implicitDefEqProofs [lt_t hltj, hltj, hc, gc, callEo]
        intro _
        first
          | refine call_lend (btoi_c c.Train.Up) (by simp) rfl ?_
          | refine call_pure (btoi_c c.Train.Up) (by simp) rfl ?_
          | refine ⟨_, _, btoi_c c.Train.Up, by simp, .inr rfl, ?_⟩
          | refine ⟨_, _, btoi_c c.Train.Up, by simp, .inl rfl, ?_⟩
          | refine callE_pure (btoi_c c.Train.Up) (by simp) (.inr rfl) ?_
          | refine callE_pure (btoi_c c.Train.Up) (by simp) (.inl rfl) ?_
        simp -dsimp -implicitDefEqProofs
        refine ⟨by unfold inI; split <;> omega, by unfold inI; omega, j + 1, hltj, by omega, ?_⟩
        apply le_of <;> simp [AV.refs1, AV.ref0, Obj.refs1, hus]
        try (split <;> simp)
      · have hjn : j = L.length := by omega
        subst hjn
        have hm := n2.mem
        have hU1 : u = true → upsTo L L.length ≠ 0 := fun hu h => by
          obtain ⟨c, hc, hcu⟩ := hm
          rw [ups_none hc h, hu] at hcu; simp at hcu
        have hU2 : u = false → upsTo L L.length ≠ L.length := fun hu h => by
          obtain ⟨c, hc, hcu⟩ := hm
          rw [ups_all hc h, hu] at hcu; simp at hcu
        have hturn := n2.turn
        have hall1 : u = true → (∀ c ∈ L, c.Train.Up = u) → upsTo L L.length = L.length := fun hu h => ups_eqN fun c hc => by rw [h c hc, hu]
        have hall2 : u = false → (∀ c ∈ L, c.Train.Up = u) → upsTo L L.length = 0 := fun hu h => ups_eq0 fun c hc => by rw [h c hc, hu]
        have hnt := NoteTurn_impl ⟨last, run⟩ u
        obtain ⟨run', hrun'⟩ : ∃ r : Nat, r = if 0 < k ∧ u = last then run + 1 else 1 := ⟨_, rfl⟩
        have hntv : NoteTurn ⟨last, run⟩ u = ⟨u, run'⟩ := by
          unfold NoteTurn
          rw [if_pos htk]
          by_cases h : last = u
          · rw [if_pos h, if_neg (by simp only; omega), hrun']
            by_cases h2 : 0 < k
            · rw [if_pos ⟨h2, h.symm⟩]; rfl
            · rw [if_neg (fun h3 => h2 h3.1)]
              have : run = 0 := by omega
              simp [this]
          · rw [if_neg h, hrun', if_neg (fun h3 => h h3.2.symm)]; rfl
        have hrl : run' ≤ k + 1 := by rw [hrun']; split <;> omega
        have hfin : 0 < upsTo L L.length → upsTo L L.length < L.length → run' ≤ 3 := fun g1 g2 => by
          rw [hrun']
          split
          · rename_i h
            have h4 := h3 g1 g2
            rcases Nat.lt_or_ge run 3 with h5 | h5
            · omega
            · exfalso
              have h6 := hturn h.2 (by simp only; omega)
              cases hu : u with
              | true => have := hall1 hu h6; omega
              | false => have := hall2 hu h6; omega
          · omega
        have nxt : ∀ b : Bool, b = u → ((k : Nat) + 1 ≤ 30 ∧ run' ≤ k + 1 ∧ (k + 1 = 0 → b = false) ∧ (0 < upsTo L L.length → upsTo L L.length < L.length → run' ≤ 3)) ∧ 30 - (k + 1) < 30 - k := fun b _ => ⟨⟨by omega, hrl, fun h => by omega, hfin⟩, by omega⟩
        rw [hntv] at hnt
        generalize upsTo L L.length = U at *
        have hk2 : (0 < k) = ¬ k = 0 := by simp; omega
        cases u with
        | true =>
          have hU : ¬ U = 0 := hU1 rfl
          simp -dsimp -implicitDefEqProofs [hU]
          intro _
          first
            | refine call_lend (hnt) (by simp) rfl ?_
            | refine call_pure (hnt) (by simp) rfl ?_
            | refine ⟨_, _, hnt, by simp, .inr rfl, ?_⟩
            | refine ⟨_, _, hnt, by simp, .inl rfl, ?_⟩
            | refine callE_pure (hnt) (by simp) (.inr rfl) ?_
            | refine callE_pure (hnt) (by simp) (.inl rfl) ?_
          rcases Nat.eq_zero_or_pos k with hk0 | hk0
          · have hl0 := h0 hk0
            have hr1 : run' = 1 := by rw [hrun', if_neg (by omega)]
            subst hk0 hr1 hl0
            simp -dsimp -implicitDefEqProofs
            refine ⟨by unfold inI; omega, 1, 1, .inr ⟨⟨by omega, by omega, by omega, hfin⟩, by omega, ?_⟩⟩
            apply le_of <;> simp [AV.refs1, AV.ref0, Obj.refs1]
          · have hk4 : ¬ k = 0 := by omega
            cases last with
            | true =>
              have hr1 : run' = run + 1 := by rw [hrun', if_pos ⟨hk0, rfl⟩]
              subst hr1
              have hri : inI ((run : Int) + 1) := by unfold inI; omega
              by_cases hb : (3 : Int) < (run : Int) + 1
              · have hUL : U = L.length := by
                  rcases Nat.lt_or_ge U L.length with h | h
                  · have := hfin (by omega) h; omega
                  · omega
                have hU0 : (0 < U) = True := by simp; omega
                have hUn : (L.length ≤ U) = True := by simp; omega
                simp -dsimp -implicitDefEqProofs [hk0, hk4, hb, hri, hU0, hUn, hlen]
                refine ⟨by unfold inI; omega, k + 1, run + 1, .inr ⟨?_, by omega, ?_⟩⟩
                · repeat' apply And.intro
                  all_goals (intros; omega)
                · apply le_of <;> simp [AV.refs1, AV.ref0, Obj.refs1]
              · simp -dsimp -implicitDefEqProofs [hk0, hk4, hb, hri]
                refine ⟨by unfold inI; omega, k + 1, run + 1, .inr ⟨?_, by omega, ?_⟩⟩
                · repeat' apply And.intro
                  all_goals (intros; omega)
                · apply le_of <;> simp [AV.refs1, AV.ref0, Obj.refs1]
            | false =>
              have hr1 : run' = 1 := by rw [hrun', if_neg (by simp)]
              subst hr1
              simp -dsimp -implicitDefEqProofs [hk0, hk4]
              refine ⟨by unfold inI; omega, k + 1, 1, .inr ⟨⟨by omega, by omega, by omega, hfin⟩, by omega, ?_⟩⟩
              apply le_of <;> simp [AV.refs1, AV.ref0, Obj.refs1]
        | false =>
          have hU : ¬ U = L.length := hU2 rfl
          simp -dsimp -implicitDefEqProofs [hU]
          refine fun _ => ⟨by omega, fun _ => ?_⟩
          first
            | refine call_lend (hnt) (by simp) rfl ?_
            | refine call_pure (hnt) (by simp) rfl ?_
            | refine ⟨_, _, hnt, by simp, .inr rfl, ?_⟩
            | refine ⟨_, _, hnt, by simp, .inl rfl, ?_⟩
            | refine callE_pure (hnt) (by simp) (.inr rfl) ?_
            | refine callE_pure (hnt) (by simp) (.inl rfl) ?_
          rcases Nat.eq_zero_or_pos k with hk0 | hk0
          · have hl0 := h0 hk0
            have hr1 : run' = 1 := by rw [hrun', if_neg (by omega)]
            subst hk0 hr1 hl0
            simp -dsimp -implicitDefEqProofs
            refine ⟨by unfold inI; omega, 1, 1, .inl ⟨⟨by omega, by omega, hfin⟩, by omega, ?_⟩⟩
            apply le_of <;> simp [AV.refs1, AV.ref0, Obj.refs1]
          · have hk4 : ¬ k = 0 := by omega
            cases last with
            | true =>
              have hr1 : run' = 1 := by rw [hrun', if_neg (by simp)]
              subst hr1
              simp -dsimp -implicitDefEqProofs [hk0, hk4]
              refine ⟨by unfold inI; omega, k + 1, 1, .inl ⟨⟨by omega, by omega, hfin⟩, by omega, ?_⟩⟩
              apply le_of <;> simp [AV.refs1, AV.ref0, Obj.refs1]
            | false =>
              have hr1 : run' = run + 1 := by rw [hrun', if_pos ⟨hk0, rfl⟩]
              subst hr1
              have hri : inI ((run : Int) + 1) := by unfold inI; omega
              by_cases hb : (3 : Int) < (run : Int) + 1
              · have hU0 : U = 0 := by
                  rcases Nat.eq_zero_or_pos U with h | h
                  · exact h
                  · have := hfin h (by omega); omega
                have hU0' : (0 < U) = False := by simp; omega
                simp -dsimp -implicitDefEqProofs [hk0, hk4, hb, hri, hU0, hU0']
                refine ⟨by unfold inI; omega, k + 1, run + 1, .inl ⟨?_, by omega, ?_⟩⟩
                · repeat' apply And.intro
                  all_goals (intros; omega)
                · apply le_of <;> simp [AV.refs1, AV.ref0, Obj.refs1]
              · simp -dsimp -implicitDefEqProofs [hk0, hk4, hb, hri]
                refine ⟨by unfold inI; omega, k + 1, run + 1, .inl ⟨?_, by omega, ?_⟩⟩
                · repeat' apply And.intro
                  all_goals (intros; omega)
                · apply le_of <;> simp [AV.refs1, AV.ref0, Obj.refs1]
  · have hk1 : ((k : Int) < 30) = False := by simp; omega
    simp -dsimp -implicitDefEqProofs [hk1]
    first
      | refine call_lend (TurnOk_impl ⟨last, run⟩) (by simp) rfl ?_
      | refine call_pure (TurnOk_impl ⟨last, run⟩) (by simp) rfl ?_
      | refine ⟨_, _, TurnOk_impl ⟨last, run⟩, by simp, .inr rfl, ?_⟩
      | refine ⟨_, _, TurnOk_impl ⟨last, run⟩, by simp, .inl rfl, ?_⟩
      | refine callE_pure (TurnOk_impl ⟨last, run⟩) (by simp) (.inr rfl) ?_
      | refine callE_pure (TurnOk_impl ⟨last, run⟩) (by simp) (.inl rfl) ?_
    simp -dsimp -implicitDefEqProofs
    exact htk
theorem nenc_fit {xs : List C} (h : Fits [.u] xs) : ∃ n : Nat, xs = nenc n := by
  obtain ⟨c0, ys, rfl, h0, h⟩ := h.cons_inv
  obtain rfl := h.nil_inv
  obtain ⟨n0, rfl⟩ := h0.u_inv
  exact ⟨n0, rfl⟩
theorem isLaw_FnTurns : IsLaw Rows.fnTurnsSpec Try.f8.params.size := by
  refine ⟨rfl, fun H ds h => ?_⟩
  match ds, h with
  | [d0], _ => rfl
theorem lawFacts_FnTurns : LawFacts Try.prog Try.f8 (Try.f8.resultTypes.getD 0 0) [(false, [.sl [.u]])] :=
  ⟨fact_laid, by kernel_rfl, by kernel_rfl, by kernel_rfl, by kernel_rfl⟩
set_option maxRecDepth 100000 in
theorem lifted_FnTurns (os : Os) (started : os.Started) (H : Type) (enc : TypeId × Value → H) :
    ReturnsInHanded {} Try.checked os 8 .any (Rows.fnTurnsSpec.pre6 enc Try.prog Try.f8 Rows.fnTurnsRow.domain false) (Rows.fnTurnsSpec.post enc Try.prog Try.f8 false true false false) := by
  refine law_lifted (C := Try.checked) fact_own started (by kernel_rfl) Try.func8
    (ChangeSpec.witness6 (enc := enc) (C := Try.checked) false ⟨#[], #[.slice none 0 0], []⟩ 8 (by kernel_rfl) (by kernel_rfl) (by kernel_rfl) (by kernel_rfl)) isLaw_FnTurns lawFacts_FnTurns ?_
  rintro avs ⟨a, avs0, rfl, ha, rfl⟩
  cases ha with
  | one h0 =>
    obtain ⟨x0, rfl⟩ := h0.sl_inv nenc fun xs h => nenc_fit h
    exact FnTurns_c x0
theorem facts_FnTurns : rowFacts Try.prog 8 Try.f8 Rows.fnTurnsSpec Rows.fnTurnsRow = true := by kernel_rfl
theorem named_FnTurns : Try.pinned.checked.prog.funcNamed Rows.fnTurnsRow.func = some 8 := by kernel_rfl
theorem inst_FnTurns : Try.f8.isInstance Try.pinned.checked.prog Rows.fnTurnsRow.origin Rows.fnTurnsRow.targs := (of_decide_eq_true (by kernel_rfl))
theorem wrap_FnTurns : Try.f8.isWrapper Try.pinned.checked.prog Rows.fnTurnsRow.wrapper Rows.fnTurnsRow.mainSum := by
  unfold Func.isWrapper; first | (rw [if_pos (by decide +kernel)]; kernel_rfl) | (rw [if_neg (by decide +kernel)]; exact ⟨rfl, rfl⟩)
theorem FnTurns_holds : Rows.FnTurnsSaid :=
  OpenClaim.holds_of_wide (p := Try.pinned) (s := Rows.fnTurnsSpec) (c := Rows.fnTurnsRow) 8 Try.f8 rfl rfl rfl rfl rfl rfl rfl ⟨rfl, rfl, rfl, rfl, rfl⟩ rfl rfl rfl rfl rfl named_FnTurns Try.func8
    (joined_of seatFacts facts_FnTurns ⟨rfl, rfl, rfl, rfl, rfl, rfl, rfl, rfl⟩) inst_FnTurns wrap_FnTurns (fun os started H enc _ => lifted_FnTurns os started H enc)
end Go.Proofs.Ytfmgadchjiplmaa
