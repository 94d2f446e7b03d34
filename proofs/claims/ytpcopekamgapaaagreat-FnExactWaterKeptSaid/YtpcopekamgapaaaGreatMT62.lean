/- Contracts of functions of this seat: what each answers, as plain Lean. -/
import Derived.Test.YtpcopekamgapaaaGreatMTyW
import Derived.Test.YtpcopekamgapaaaGreatMT61
set_option linter.all false
namespace Go.Proofs.YtpcopekamgapaaaGreat
open Go.RowKit

/-! Waterways. -/
def laneOk (p : Way × List Mover) : Bool := WayOk p.1 && decide (p.2.length ≤ 24) && p.2.all fun m => MoverOk m p.1
def partsOk (x : Waterway) : Bool := RiverOk x.Reaches && decide (2 ≤ x.Reaches.length) && decide (x.Ways.length = x.Reaches.length) && decide (x.Movers.length = x.Reaches.length) && decide (x.Works.length + 1 = x.Reaches.length) &&
  (x.Ways.zip x.Movers).all laneOk && x.Works.all WorkOk
theorem lane1 {w : Way} {ms : List Mover} (h : WayOk w = false) : laneOk (w, ms) = false := by simp [laneOk, h]
theorem lane2 {w : Way} {ms : List Mover} (h : 24 < ms.length) : laneOk (w, ms) = false := by simp [laneOk]; omega
theorem lane3 {w : Way} {ms : List Mover} {k : Nat} {m : Mover} (h : ms[k]? = some m) (hm : MoverOk m w = false) : laneOk (w, ms) = false := by
  have := all_false (p := fun m => MoverOk m w) h hm
  simp [laneOk, this]
theorem parts_lane {x : Waterway} {k : Nat} {w : Way} {ms : List Mover} (h1 : x.Ways[k]? = some w) (h2 : x.Movers[k]? = some ms) (h : laneOk (w, ms) = false) : partsOk x = false := by
  have := all_false (p := laneOk) (l := x.Ways.zip x.Movers) (k := k) (List.getElem?_zip_eq_some.2 ⟨h1, h2⟩) h
  simp [partsOk, this]
theorem parts_work {x : Waterway} {k : Nat} {w : Work} (h1 : x.Works[k]? = some w) (h : WorkOk w = false) : partsOk x = false := by
  have := all_false (p := WorkOk) h1 h
  simp [partsOk, this]
theorem pno2 {x : Waterway} (h : ¬ 2 ≤ x.Reaches.length) : partsOk x = false := by simp [partsOk, h]
theorem pno3 {x : Waterway} (h : ¬ x.Ways.length = x.Reaches.length) : partsOk x = false := by simp [partsOk, h]
theorem pno4 {x : Waterway} (h : ¬ x.Movers.length = x.Reaches.length) : partsOk x = false := by simp [partsOk, h]
theorem pno5 {x : Waterway} (h : ¬ x.Works.length + 1 = x.Reaches.length) : partsOk x = false := by simp [partsOk, h]
theorem partsOk_impl (x : Waterway) (hs : x.small) : PureF Tryz.prog n_impl_partsOk [.agg (x.enc.map .c)] (.c (.b (partsOk x))) := by
  have hsM := hs.2.2.2.1
  have hsW := hs.2.2.1
  refine pure_of h_impl_partsOk (by simp) fun hwf => ?_
  simp -dsimp -implicitDefEqProofs [c_impl_partsOk]
  intro hlen
  first
    | refine call_lend (RiverOk_impl x.Reaches) (by simp) rfl ?_
    | refine call_pure (RiverOk_impl x.Reaches) (by simp) rfl ?_
    | refine ⟨_, _, RiverOk_impl x.Reaches, by simp, .inr rfl, ?_⟩
    | refine ⟨_, _, RiverOk_impl x.Reaches, by simp, .inl rfl, ?_⟩
    | refine callE_pure (RiverOk_impl x.Reaches) (by simp) (.inr rfl) ?_
    | refine callE_pure (RiverOk_impl x.Reaches) (by simp) (.inl rfl) ?_
  cases h1 : RiverOk x.Reaches with
  | false => simp -dsimp -implicitDefEqProofs; simp [partsOk, h1]
  | true =>
  simp -dsimp -implicitDefEqProofs
  first
    | refine ⟨fun h2 => (pno2 (by omega)), fun h2 => ?_⟩
    | refine ⟨fun h2 => ?_, fun h2 => (pno2 (by omega))⟩
  intro _
  first
    | refine ⟨fun h3 => (pno3 (by omega)), fun h3 => ?_⟩
    | refine ⟨fun h3 => ?_, fun h3 => (pno3 (by omega))⟩
  intro _
  first
    | refine ⟨fun h4 => (pno4 (by omega)), fun h4 => ?_⟩
    | refine ⟨fun h4 => ?_, fun h4 => (pno4 (by omega))⟩
  refine fun _ => ⟨by unfold maxLen at hlen; unfold inI; omega, ?_⟩
  first
    | refine ⟨fun h5 => (pno5 (by omega)), fun h5 => ?_⟩
    | refine ⟨fun h5 => ?_, fun h5 => (pno5 (by omega))⟩
  have h3' : x.Ways.length = x.Reaches.length := by omega
  have h4' : x.Movers.length = x.Reaches.length := by omega
  have hz : (x.Ways.zip x.Movers).length = x.Ways.length := by rw [List.length_zip]; omega
  refine fun hlw => loop_rule (ι := Nat) (fun k => k ≤ x.Ways.length ∧ ∀ p ∈ (x.Ways.zip x.Movers).take k, laneOk p = true) (fun k => stOf [(1, .box 1 0), (44, .c (.sl 2 (x.Ways.map Way.enc))), (45, .c (.i x.Ways.length)), (46, .c (.i k))] [(1, .box (x.enc.map .c))]) (fun k => x.Ways.length - k) 0 (by simp) (by apply le_of <;> simp [AV.refs1, AV.ref0, Obj.refs1]) ?_
  rintro k ⟨hk, hall⟩
  rcases Nat.lt_or_ge k x.Ways.length with hlt | hge
  · obtain ⟨w, hw⟩ : ∃ w, x.Ways[k]? = some w := ⟨_, List.getElem?_eq_getElem hlt⟩
    obtain ⟨ms, hm⟩ : ∃ w, x.Movers[k]? = some w := ⟨_, List.getElem?_eq_getElem (by omega)⟩
    have hkm : k < x.Movers.length := by omega
    have gm := (List.getElem?_eq_some_iff.1 hm).2
    have gw := (List.getElem?_eq_some_iff.1 hw).2
    have hp : (x.Ways.zip x.Movers)[k]? = some (w, ms) := List.getElem?_zip_eq_some.2 ⟨hw, hm⟩
    have hsm := hsM.2 ms (List.mem_of_getElem? hm)
    simp -dsimp -implicitDefEqProofs [hw, gw, lt_t hlt, hlt]
    first
      | refine call_lend (WayOk_impl w) (by simp) rfl ?_
      | refine call_pure (WayOk_impl w) (by simp) rfl ?_
      | refine ⟨_, _, WayOk_impl w, by simp, .inr rfl, ?_⟩
      | refine ⟨_, _, WayOk_impl w, by simp, .inl rfl, ?_⟩
      | refine callE_pure (WayOk_impl w) (by simp) (.inr rfl) ?_
      | refine callE_pure (WayOk_impl w) (by simp) (.inl rfl) ?_
    cases h6 : WayOk w with
    | false => simp -dsimp -implicitDefEqProofs; exact parts_lane hw hm (lane1 h6)
    | true =>
    simp -dsimp -implicitDefEqProofs [hm, gm, hkm, lt_t hkm]
    intro hlm
    first
      | refine ⟨fun h7 => (parts_lane hw hm (lane2 (by omega))), fun h7 => ?_⟩
      | refine ⟨fun h7 => ?_, fun h7 => (parts_lane hw hm (lane2 (by omega)))⟩
    refine fun _ => loop_rule (ι := Nat) (fun i => i ≤ ms.length ∧ ∀ m ∈ ms.take i, MoverOk m w = true) (fun i => stOf [(1, .box 1 0), (5, .box 5 0), (44, .c (.sl 2 (x.Ways.map Way.enc))), (45, .c (.i x.Ways.length)), (46, .c (.i k)), (67, .c (.sl 3 (ms.map Mover.enc))), (68, .c (.i ms.length)), (69, .c (.i i))] [(1, .box (x.enc.map .c)), (5, .box (w.enc.map .c))]) (fun i => ms.length - i) 0 (by simp) (by apply le_of <;> simp [AV.refs1, AV.ref0, Obj.refs1]) ?_
    rintro i ⟨hi, hall2⟩
    rcases Nat.lt_or_ge i ms.length with hlt2 | hge2
    · obtain ⟨m, hmm⟩ : ∃ w, ms[i]? = some w := ⟨_, List.getElem?_eq_getElem hlt2⟩
      have g2 := (List.getElem?_eq_some_iff.1 hmm).2
      simp -dsimp -implicitDefEqProofs [hmm, g2, lt_t hlt2, hlt2]
      first
        | refine call_lend (MoverOk_impl m w (hsm.2 m (List.mem_of_getElem? hmm))) (by simp) rfl ?_
        | refine call_pure (MoverOk_impl m w (hsm.2 m (List.mem_of_getElem? hmm))) (by simp) rfl ?_
        | refine ⟨_, _, MoverOk_impl m w (hsm.2 m (List.mem_of_getElem? hmm)), by simp, .inr rfl, ?_⟩
        | refine ⟨_, _, MoverOk_impl m w (hsm.2 m (List.mem_of_getElem? hmm)), by simp, .inl rfl, ?_⟩
        | refine callE_pure (MoverOk_impl m w (hsm.2 m (List.mem_of_getElem? hmm))) (by simp) (.inr rfl) ?_
        | refine callE_pure (MoverOk_impl m w (hsm.2 m (List.mem_of_getElem? hmm))) (by simp) (.inl rfl) ?_
      cases h8 : MoverOk m w with
      | false => simp -dsimp -implicitDefEqProofs; exact parts_lane hw hm (lane3 hmm h8)
      | true =>
        simp -dsimp -implicitDefEqProofs
        refine ⟨inI_succ hlt2 hlm, i + 1, ⟨hlt2, all_take_succ (p := fun m => MoverOk m w) hmm hall2 h8⟩, by omega, ?_⟩
        apply le_of <;> simp [AV.refs1, AV.ref0, Obj.refs1]
    · have h9 := all_of_take (p := fun m => MoverOk m w) hge2 hall2
      have hlane : laneOk (w, ms) = true := by
        have : ms.length ≤ 24 := by omega
        simp [laneOk, h6, this, h9]
      simp -dsimp -implicitDefEqProofs [lt_f hge2]
      refine ⟨inI_succ hlt hlw, k + 1, ⟨hlt, fun a b hab => all_take_succ (p := laneOk) hp hall hlane (a, b) hab⟩, by omega, ?_⟩
      apply le_of <;> simp [AV.refs1, AV.ref0, Obj.refs1]
  · have hl := all_of_take (p := laneOk) (by rw [hz]; exact hge) hall
    simp -dsimp -implicitDefEqProofs [lt_f hge]
    refine fun hlk => loop_rule (ι := Nat) (fun i => i ≤ x.Works.length ∧ ∀ w ∈ x.Works.take i, WorkOk w = true) (fun i => stOf [(1, .box 1 0), (80, .c (.sl 22 (x.Works.map Work.enc))), (81, .c (.i x.Works.length)), (82, .c (.i i))] [(1, .box (x.enc.map .c))]) (fun i => x.Works.length - i) 0 (by simp) (by apply le_of <;> simp [AV.refs1, AV.ref0, Obj.refs1]) ?_
    rintro i ⟨hi, hall2⟩
    rcases Nat.lt_or_ge i x.Works.length with hlt2 | hge2
    · obtain ⟨w, hw⟩ : ∃ w, x.Works[i]? = some w := ⟨_, List.getElem?_eq_getElem hlt2⟩
      have g2 := (List.getElem?_eq_some_iff.1 hw).2
      simp -dsimp -implicitDefEqProofs [hw, g2, lt_t hlt2, hlt2]
      first
        | refine call_lend (WorkOk_impl w (hsW.2 w (List.mem_of_getElem? hw))) (by simp) rfl ?_
        | refine call_pure (WorkOk_impl w (hsW.2 w (List.mem_of_getElem? hw))) (by simp) rfl ?_
        | refine ⟨_, _, WorkOk_impl w (hsW.2 w (List.mem_of_getElem? hw)), by simp, .inr rfl, ?_⟩
        | refine ⟨_, _, WorkOk_impl w (hsW.2 w (List.mem_of_getElem? hw)), by simp, .inl rfl, ?_⟩
        | refine callE_pure (WorkOk_impl w (hsW.2 w (List.mem_of_getElem? hw))) (by simp) (.inr rfl) ?_
        | refine callE_pure (WorkOk_impl w (hsW.2 w (List.mem_of_getElem? hw))) (by simp) (.inl rfl) ?_
      cases h8 : WorkOk w with
      | false => simp -dsimp -implicitDefEqProofs; exact parts_work hw h8
      | true =>
        simp -dsimp -implicitDefEqProofs
        refine ⟨inI_succ hlt2 hlk, i + 1, ⟨hlt2, all_take_succ (p := WorkOk) hw hall2 h8⟩, by omega, ?_⟩
        apply le_of <;> simp [AV.refs1, AV.ref0, Obj.refs1]
    · have h9 := all_of_take (p := WorkOk) hge2 hall2
      simp -dsimp -implicitDefEqProofs [lt_f hge2]
      have h2' : 2 ≤ x.Reaches.length := by omega
      have h5' : x.Works.length + 1 = x.Reaches.length := by omega
      simp [partsOk, h1, h2', h3', h4', h5', hl, h9]
def passOk (n : Nat) (p : Passing) : Bool := inRange p.Time 0 1000000 && inRange p.Work 0 (n - 1) && TrainOk p.Train
def listsOk (x : Waterway) : Bool := decide (x.Arrived.length ≤ 500) && decide (x.Entered.length ≤ 2000) && decide (x.Passings.length ≤ 500) && x.Arrived.all TrainOk && x.Entered.all (fun n => inRange n 1 9999) && x.Passings.all (passOk x.Works.length)
def WaterwayOk (x : Waterway) : Bool := inRange x.Time 0 1000000 && partsOk x && listsOk x && TariffOk x.Tariff && BookOk x.Book && inRange x.Start 0 1000000000 && inRange x.In 0 1000000000 && inRange x.Out 0 1000000000
theorem lno1 {x : Waterway} (h : ¬ x.Arrived.length ≤ 500) : listsOk x = false := by simp [listsOk, h]
theorem lno2 {x : Waterway} (h : ¬ x.Entered.length ≤ 2000) : listsOk x = false := by simp [listsOk, h]
theorem lno3 {x : Waterway} (h : ¬ x.Passings.length ≤ 500) : listsOk x = false := by simp [listsOk, h]
theorem lno4 {x : Waterway} {k : Nat} {t : Train} (h1 : x.Arrived[k]? = some t) (h : TrainOk t = false) : listsOk x = false := by
  have := all_false (p := TrainOk) h1 h
  simp [listsOk, this]
theorem lno5 {x : Waterway} {k : Nat} {t : Int} (h1 : x.Entered[k]? = some t) (h : inRange t 1 9999 = false) : listsOk x = false := by
  have := all_false (p := fun n => inRange n 1 9999) h1 h
  simp [listsOk, this]
theorem lno6 {x : Waterway} {k : Nat} {t : Passing} (h1 : x.Passings[k]? = some t) (h : passOk x.Works.length t = false) : listsOk x = false := by
  have := all_false (p := passOk x.Works.length) h1 h
  simp [listsOk, this]
theorem wno {x : Waterway} (h : listsOk x = false) : WaterwayOk x = false := by simp [WaterwayOk, h]
theorem WaterwayOk_impl (x : Waterway) (hs : x.small) : PureF Tryz.prog n_impl_WaterwayOk [.agg (x.enc.map .c)] (.c (.b (WaterwayOk x))) := by
  have hsA := hs.2.2.2.2.1
  have hsP := hs.2.2.2.2.2.2.2.2
  refine pure_of h_impl_WaterwayOk (by simp) fun hwf => ?_
  simp -dsimp -implicitDefEqProofs [c_impl_WaterwayOk]
  first
    | refine call_lend (inRange_impl x.Time 0 1000000) (by simp) rfl ?_
    | refine call_pure (inRange_impl x.Time 0 1000000) (by simp) rfl ?_
    | refine ⟨_, _, inRange_impl x.Time 0 1000000, by simp, .inr rfl, ?_⟩
    | refine ⟨_, _, inRange_impl x.Time 0 1000000, by simp, .inl rfl, ?_⟩
    | refine callE_pure (inRange_impl x.Time 0 1000000) (by simp) (.inr rfl) ?_
    | refine callE_pure (inRange_impl x.Time 0 1000000) (by simp) (.inl rfl) ?_
  cases h1 : inRange x.Time 0 1000000 with
  | false => simp -dsimp -implicitDefEqProofs; simp [WaterwayOk, h1]
  | true =>
  simp -dsimp -implicitDefEqProofs
  first
    | refine call_lend (partsOk_impl x hs) (by simp) rfl ?_
    | refine call_pure (partsOk_impl x hs) (by simp) rfl ?_
    | refine ⟨_, _, partsOk_impl x hs, by simp, .inr rfl, ?_⟩
    | refine ⟨_, _, partsOk_impl x hs, by simp, .inl rfl, ?_⟩
    | refine callE_pure (partsOk_impl x hs) (by simp) (.inr rfl) ?_
    | refine callE_pure (partsOk_impl x hs) (by simp) (.inl rfl) ?_
  cases h2 : partsOk x with
  | false => simp -dsimp -implicitDefEqProofs; simp [WaterwayOk, h2]
  | true =>
  simp -dsimp -implicitDefEqProofs
  intro hlA
  first
    | refine ⟨fun h3 => (wno (lno1 (by omega))), fun h3 => ?_⟩
    | refine ⟨fun h3 => ?_, fun h3 => (wno (lno1 (by omega)))⟩
  intro hlE
  first
    | refine ⟨fun h4 => (wno (lno2 (by omega))), fun h4 => ?_⟩
    | refine ⟨fun h4 => ?_, fun h4 => (wno (lno2 (by omega)))⟩
  intro hlP
  first
    | refine ⟨fun h5 => (wno (lno3 (by omega))), fun h5 => ?_⟩
    | refine ⟨fun h5 => ?_, fun h5 => (wno (lno3 (by omega)))⟩
  refine fun _ => loop_rule (ι := Nat) (fun k => k ≤ x.Arrived.length ∧ ∀ t ∈ x.Arrived.take k, TrainOk t = true) (fun k => stOf [(1, .box 1 0), (37, .c (.sl 2 (x.Arrived.map Train.enc))), (38, .c (.i x.Arrived.length)), (39, .c (.i k))] [(1, .box (x.enc.map .c))]) (fun k => x.Arrived.length - k) 0 (by simp) (by apply le_of <;> simp [AV.refs1, AV.ref0, Obj.refs1]) ?_
  rintro k ⟨hk, hall⟩
  rcases Nat.lt_or_ge k x.Arrived.length with hlt | hge
  · obtain ⟨t, ht⟩ : ∃ w, x.Arrived[k]? = some w := ⟨_, List.getElem?_eq_getElem hlt⟩
    simp -dsimp -implicitDefEqProofs [ht, lt_t hlt]
    first
      | refine call_lend (TrainOk_impl t (hsA.2 t (List.mem_of_getElem? ht))) (by simp) rfl ?_
      | refine call_pure (TrainOk_impl t (hsA.2 t (List.mem_of_getElem? ht))) (by simp) rfl ?_
      | refine ⟨_, _, TrainOk_impl t (hsA.2 t (List.mem_of_getElem? ht)), by simp, .inr rfl, ?_⟩
      | refine ⟨_, _, TrainOk_impl t (hsA.2 t (List.mem_of_getElem? ht)), by simp, .inl rfl, ?_⟩
      | refine callE_pure (TrainOk_impl t (hsA.2 t (List.mem_of_getElem? ht))) (by simp) (.inr rfl) ?_
      | refine callE_pure (TrainOk_impl t (hsA.2 t (List.mem_of_getElem? ht))) (by simp) (.inl rfl) ?_
    cases h6 : TrainOk t with
    | false => simp -dsimp -implicitDefEqProofs; exact wno (lno4 ht h6)
    | true =>
      simp -dsimp -implicitDefEqProofs
      refine ⟨inI_succ hlt hlA, k + 1, ⟨hlt, all_take_succ (p := TrainOk) ht hall h6⟩, by omega, ?_⟩
      apply le_of <;> simp [AV.refs1, AV.ref0, Obj.refs1]
  have hA := all_of_take (p := TrainOk) hge hall
  simp -dsimp -implicitDefEqProofs [lt_f hge]
  refine fun _ => loop_rule (ι := Nat) (fun k => k ≤ x.Entered.length ∧ ∀ t ∈ x.Entered.take k, inRange t 1 9999 = true) (fun k => stOf [(1, .box 1 0), (48, .c (.sl 1 (x.Entered.map ienc))), (49, .c (.i x.Entered.length)), (50, .c (.i k))] [(1, .box (x.enc.map .c))]) (fun k => x.Entered.length - k) 0 (by simp) (by apply le_of <;> simp [AV.refs1, AV.ref0, Obj.refs1]) ?_
  clear hall hk hge k
  rintro k ⟨hk, hall⟩
  rcases Nat.lt_or_ge k x.Entered.length with hlt | hge
  · obtain ⟨t, ht⟩ : ∃ w, x.Entered[k]? = some w := ⟨_, List.getElem?_eq_getElem hlt⟩
    simp -dsimp -implicitDefEqProofs [ht, lt_t hlt]
    first
      | refine call_lend (inRange_impl t 1 9999) (by simp) rfl ?_
      | refine call_pure (inRange_impl t 1 9999) (by simp) rfl ?_
      | refine ⟨_, _, inRange_impl t 1 9999, by simp, .inr rfl, ?_⟩
      | refine ⟨_, _, inRange_impl t 1 9999, by simp, .inl rfl, ?_⟩
      | refine callE_pure (inRange_impl t 1 9999) (by simp) (.inr rfl) ?_
      | refine callE_pure (inRange_impl t 1 9999) (by simp) (.inl rfl) ?_
    cases h6 : inRange t 1 9999 with
    | false => simp -dsimp -implicitDefEqProofs; exact wno (lno5 ht h6)
    | true =>
      simp -dsimp -implicitDefEqProofs
      refine ⟨inI_succ hlt hlE, k + 1, ⟨hlt, all_take_succ (p := fun n => inRange n 1 9999) ht hall h6⟩, by omega, ?_⟩
      apply le_of <;> simp [AV.refs1, AV.ref0, Obj.refs1]
  have hE := all_of_take (p := fun n => inRange n 1 9999) hge hall
  simp -dsimp -implicitDefEqProofs [lt_f hge]
  refine fun _ => loop_rule (ι := Nat) (fun k => k ≤ x.Passings.length ∧ ∀ t ∈ x.Passings.take k, passOk x.Works.length t = true) (fun k => stOf [(1, .box 1 0), (59, .c (.sl 4 (x.Passings.map Passing.enc))), (60, .c (.i x.Passings.length)), (61, .c (.i k))] [(1, .box (x.enc.map .c))]) (fun k => x.Passings.length - k) 0 (by simp) (by apply le_of <;> simp [AV.refs1, AV.ref0, Obj.refs1]) ?_
  clear hall hk hge k
  rintro k ⟨hk, hall⟩
  rcases Nat.lt_or_ge k x.Passings.length with hlt | hge
  · obtain ⟨t, ht⟩ : ∃ w, x.Passings[k]? = some w := ⟨_, List.getElem?_eq_getElem hlt⟩
    simp -dsimp -implicitDefEqProofs [ht, lt_t hlt]
    first
      | refine call_lend (inRange_impl t.Time 0 1000000) (by simp) rfl ?_
      | refine call_pure (inRange_impl t.Time 0 1000000) (by simp) rfl ?_
      | refine ⟨_, _, inRange_impl t.Time 0 1000000, by simp, .inr rfl, ?_⟩
      | refine ⟨_, _, inRange_impl t.Time 0 1000000, by simp, .inl rfl, ?_⟩
      | refine callE_pure (inRange_impl t.Time 0 1000000) (by simp) (.inr rfl) ?_
      | refine callE_pure (inRange_impl t.Time 0 1000000) (by simp) (.inl rfl) ?_
    cases h6 : inRange t.Time 0 1000000 with
    | false => simp -dsimp -implicitDefEqProofs; exact wno (lno6 ht (by simp [passOk, h6]))
    | true =>
    simp -dsimp -implicitDefEqProofs
    refine fun hlW => ⟨by unfold maxLen at hlW; unfold inI; omega, ?_⟩
    first
      | refine call_lend (inRange_impl t.Work 0 (x.Works.length - 1)) (by simp) rfl ?_
      | refine call_pure (inRange_impl t.Work 0 (x.Works.length - 1)) (by simp) rfl ?_
      | refine ⟨_, _, inRange_impl t.Work 0 (x.Works.length - 1), by simp, .inr rfl, ?_⟩
      | refine ⟨_, _, inRange_impl t.Work 0 (x.Works.length - 1), by simp, .inl rfl, ?_⟩
      | refine callE_pure (inRange_impl t.Work 0 (x.Works.length - 1)) (by simp) (.inr rfl) ?_
      | refine callE_pure (inRange_impl t.Work 0 (x.Works.length - 1)) (by simp) (.inl rfl) ?_
    cases h7 : inRange t.Work 0 (x.Works.length - 1) with
    | false => simp -dsimp -implicitDefEqProofs; exact wno (lno6 ht (by simp [passOk, h7]))
    | true =>
    simp -dsimp -implicitDefEqProofs
    first
      | refine call_lend (TrainOk_impl t.Train (hsP.2 t (List.mem_of_getElem? ht))) (by simp) rfl ?_
      | refine call_pure (TrainOk_impl t.Train (hsP.2 t (List.mem_of_getElem? ht))) (by simp) rfl ?_
      | refine ⟨_, _, TrainOk_impl t.Train (hsP.2 t (List.mem_of_getElem? ht)), by simp, .inr rfl, ?_⟩
      | refine ⟨_, _, TrainOk_impl t.Train (hsP.2 t (List.mem_of_getElem? ht)), by simp, .inl rfl, ?_⟩
      | refine callE_pure (TrainOk_impl t.Train (hsP.2 t (List.mem_of_getElem? ht))) (by simp) (.inr rfl) ?_
      | refine callE_pure (TrainOk_impl t.Train (hsP.2 t (List.mem_of_getElem? ht))) (by simp) (.inl rfl) ?_
    cases h8 : TrainOk t.Train with
    | false => simp -dsimp -implicitDefEqProofs; exact wno (lno6 ht (by simp [passOk, h8]))
    | true =>
    simp -dsimp -implicitDefEqProofs
    refine ⟨inI_succ hlt hlP, k + 1, ⟨hlt, all_take_succ (p := passOk x.Works.length) ht hall (by simp [passOk, h6, h7, h8])⟩, by omega, ?_⟩
    apply le_of <;> simp [AV.refs1, AV.ref0, Obj.refs1]
  have hP := all_of_take (p := passOk x.Works.length) hge hall
  simp -dsimp -implicitDefEqProofs [lt_f hge]
  first
    | refine call_lend (TariffOk_impl x.Tariff) (by simp) rfl ?_
    | refine call_pure (TariffOk_impl x.Tariff) (by simp) rfl ?_
    | refine ⟨_, _, TariffOk_impl x.Tariff, by simp, .inr rfl, ?_⟩
    | refine ⟨_, _, TariffOk_impl x.Tariff, by simp, .inl rfl, ?_⟩
    | refine callE_pure (TariffOk_impl x.Tariff) (by simp) (.inr rfl) ?_
    | refine callE_pure (TariffOk_impl x.Tariff) (by simp) (.inl rfl) ?_
  cases h7 : TariffOk x.Tariff with
  | false => simp -dsimp -implicitDefEqProofs; simp [WaterwayOk, h7]
  | true =>
  simp -dsimp -implicitDefEqProofs
  first
    | refine call_lend (BookOk_impl x.Book) (by simp) rfl ?_
    | refine call_pure (BookOk_impl x.Book) (by simp) rfl ?_
    | refine ⟨_, _, BookOk_impl x.Book, by simp, .inr rfl, ?_⟩
    | refine ⟨_, _, BookOk_impl x.Book, by simp, .inl rfl, ?_⟩
    | refine callE_pure (BookOk_impl x.Book) (by simp) (.inr rfl) ?_
    | refine callE_pure (BookOk_impl x.Book) (by simp) (.inl rfl) ?_
  cases h8 : BookOk x.Book with
  | false => simp -dsimp -implicitDefEqProofs; simp [WaterwayOk, h8]
  | true =>
  simp -dsimp -implicitDefEqProofs
  first
    | refine call_lend (inRange_impl x.Start 0 1000000000) (by simp) rfl ?_
    | refine call_pure (inRange_impl x.Start 0 1000000000) (by simp) rfl ?_
    | refine ⟨_, _, inRange_impl x.Start 0 1000000000, by simp, .inr rfl, ?_⟩
    | refine ⟨_, _, inRange_impl x.Start 0 1000000000, by simp, .inl rfl, ?_⟩
    | refine callE_pure (inRange_impl x.Start 0 1000000000) (by simp) (.inr rfl) ?_
    | refine callE_pure (inRange_impl x.Start 0 1000000000) (by simp) (.inl rfl) ?_
  cases h9 : inRange x.Start 0 1000000000 with
  | false => simp -dsimp -implicitDefEqProofs; simp [WaterwayOk, h9]
  | true =>
  simp -dsimp -implicitDefEqProofs
  first
    | refine call_lend (inRange_impl x.In 0 1000000000) (by simp) rfl ?_
    | refine call_pure (inRange_impl x.In 0 1000000000) (by simp) rfl ?_
    | refine ⟨_, _, inRange_impl x.In 0 1000000000, by simp, .inr rfl, ?_⟩
    | refine ⟨_, _, inRange_impl x.In 0 1000000000, by simp, .inl rfl, ?_⟩
    | refine callE_pure (inRange_impl x.In 0 1000000000) (by simp) (.inr rfl) ?_
    | refine callE_pure (inRange_impl x.In 0 1000000000) (by simp) (.inl rfl) ?_
  cases h10 : inRange x.In 0 1000000000 with
  | false => simp -dsimp -implicitDefEqProofs; simp [WaterwayOk, h10]
  | true =>
  simp -dsimp -implicitDefEqProofs
  first
    | refine call_lend (inRange_impl x.Out 0 1000000000) (by simp) rfl ?_
    | refine call_pure (inRange_impl x.Out 0 1000000000) (by simp) rfl ?_
    | refine ⟨_, _, inRange_impl x.Out 0 1000000000, by simp, .inr rfl, ?_⟩
    | refine ⟨_, _, inRange_impl x.Out 0 1000000000, by simp, .inl rfl, ?_⟩
    | refine callE_pure (inRange_impl x.Out 0 1000000000) (by simp) (.inr rfl) ?_
    | refine callE_pure (inRange_impl x.Out 0 1000000000) (by simp) (.inl rfl) ?_
  simp -dsimp -implicitDefEqProofs
  have a3 : x.Arrived.length ≤ 500 := by omega
  have a4 : x.Entered.length ≤ 2000 := by omega
  have a5 : x.Passings.length ≤ 500 := by omega
  have hl : listsOk x = true := by simp only [listsOk, a3, a4, a5, hA, hE, hP]; simp
  simp [WaterwayOk, h1, h2, h7, h8, h9, h10, hl]
theorem l09Parts_c (x : Waterway) (hs : x.small) : PureF Tryz.prog n_spec_l09Parts [.agg (x.enc.map .c)] (.c (.b (partsOk x))) := by
  have hsM := hs.2.2.2.1
  have hsW := hs.2.2.1
  refine pure_of h_spec_l09Parts (by simp) fun hwf => ?_
  simp -dsimp -implicitDefEqProofs [c_spec_l09Parts]
  intro hlen
  first
    | refine call_lend (RiverOk_spec x.Reaches) (by simp) rfl ?_
    | refine call_pure (RiverOk_spec x.Reaches) (by simp) rfl ?_
    | refine ⟨_, _, RiverOk_spec x.Reaches, by simp, .inr rfl, ?_⟩
    | refine ⟨_, _, RiverOk_spec x.Reaches, by simp, .inl rfl, ?_⟩
    | refine callE_pure (RiverOk_spec x.Reaches) (by simp) (.inr rfl) ?_
    | refine callE_pure (RiverOk_spec x.Reaches) (by simp) (.inl rfl) ?_
  cases h1 : RiverOk x.Reaches with
  | false => simp -dsimp -implicitDefEqProofs; simp [partsOk, h1]
  | true =>
  simp -dsimp -implicitDefEqProofs
  first
    | refine ⟨fun h2 => (pno2 (by omega)), fun h2 => ?_⟩
    | refine ⟨fun h2 => ?_, fun h2 => (pno2 (by omega))⟩
  intro _
  first
    | refine ⟨fun h3 => (pno3 (by omega)), fun h3 => ?_⟩
    | refine ⟨fun h3 => ?_, fun h3 => (pno3 (by omega))⟩
  intro _
  first
    | refine ⟨fun h4 => (pno4 (by omega)), fun h4 => ?_⟩
    | refine ⟨fun h4 => ?_, fun h4 => (pno4 (by omega))⟩
  refine fun _ => ⟨by unfold maxLen at hlen; unfold inI; omega, ?_⟩
  first
    | refine ⟨fun h5 => (pno5 (by omega)), fun h5 => ?_⟩
    | refine ⟨fun h5 => ?_, fun h5 => (pno5 (by omega))⟩
  have h3' : x.Ways.length = x.Reaches.length := by omega
  have h4' : x.Movers.length = x.Reaches.length := by omega
  have h5' : x.Works.length + 1 = x.Reaches.length := by omega
  have hz : (x.Ways.zip x.Movers).length = x.Ways.length := by rw [List.length_zip]; omega
  refine loop_rule (ι := Nat) (fun k => k ≤ x.Ways.length ∧ (∀ p ∈ (x.Ways.zip x.Movers).take k, laneOk p = true) ∧ ∀ w ∈ x.Works.take k, WorkOk w = true) (fun k => stOf [(1, .box 1 0), (3, .c (.i x.Reaches.length)), (4, .c (.i k))] [(1, .box (x.enc.map .c))]) (fun k => x.Ways.length - k) 0 (by simp) (by apply le_of <;> simp [AV.refs1, AV.ref0, Obj.refs1]) ?_
  rintro k ⟨hk, hall, hallw⟩
  rcases Nat.lt_or_ge k x.Ways.length with hlt | hge
  · obtain ⟨w, hw⟩ : ∃ w, x.Ways[k]? = some w := ⟨_, List.getElem?_eq_getElem hlt⟩
    obtain ⟨ms, hm⟩ : ∃ w, x.Movers[k]? = some w := ⟨_, List.getElem?_eq_getElem (by omega)⟩
    have hkm : k < x.Movers.length := by omega
    have hkr : k < x.Reaches.length := by omega
    have gm := (List.getElem?_eq_some_iff.1 hm).2
    have gw := (List.getElem?_eq_some_iff.1 hw).2
    have hp : (x.Ways.zip x.Movers)[k]? = some (w, ms) := List.getElem?_zip_eq_some.2 ⟨hw, hm⟩
    have hsm := hsM.2 ms (List.mem_of_getElem? hm)
    simp -dsimp -implicitDefEqProofs [hw, gw, lt_t hlt, hlt, hkr, lt_t hkr]
    first
      | refine call_lend (WayOk_spec w) (by simp) rfl ?_
      | refine call_pure (WayOk_spec w) (by simp) rfl ?_
      | refine ⟨_, _, WayOk_spec w, by simp, .inr rfl, ?_⟩
      | refine ⟨_, _, WayOk_spec w, by simp, .inl rfl, ?_⟩
      | refine callE_pure (WayOk_spec w) (by simp) (.inr rfl) ?_
      | refine callE_pure (WayOk_spec w) (by simp) (.inl rfl) ?_
    cases h6 : WayOk w with
    | false => simp -dsimp -implicitDefEqProofs; exact parts_lane hw hm (lane1 h6)
    | true =>
    simp -dsimp -implicitDefEqProofs [hm, gm, hkm, lt_t hkm]
    intro hlm
    first
      | refine ⟨fun h7 => (parts_lane hw hm (lane2 (by omega))), fun h7 => ?_⟩
      | refine ⟨fun h7 => ?_, fun h7 => (parts_lane hw hm (lane2 (by omega)))⟩
    refine ⟨by unfold maxLen at hlen; unfold inI; omega, fun hc => ?_, fun hc => ?_⟩
    · obtain ⟨wk, hwk⟩ : ∃ w, x.Works[k]? = some w := ⟨_, List.getElem?_eq_getElem (by omega)⟩
      have gk := (List.getElem?_eq_some_iff.1 hwk).2
      have hkw : k < x.Works.length := by omega
      refine ⟨hkw, ?_⟩
      simp -dsimp -implicitDefEqProofs [hwk]
      first
        | refine call_lend (WorkOk_spec wk (hsW.2 wk (List.mem_of_getElem? hwk))) (by simp) rfl ?_
        | refine call_pure (WorkOk_spec wk (hsW.2 wk (List.mem_of_getElem? hwk))) (by simp) rfl ?_
        | refine ⟨_, _, WorkOk_spec wk (hsW.2 wk (List.mem_of_getElem? hwk)), by simp, .inr rfl, ?_⟩
        | refine ⟨_, _, WorkOk_spec wk (hsW.2 wk (List.mem_of_getElem? hwk)), by simp, .inl rfl, ?_⟩
        | refine callE_pure (WorkOk_spec wk (hsW.2 wk (List.mem_of_getElem? hwk))) (by simp) (.inr rfl) ?_
        | refine callE_pure (WorkOk_spec wk (hsW.2 wk (List.mem_of_getElem? hwk))) (by simp) (.inl rfl) ?_
      cases h10 : WorkOk wk with
      | false => simp -dsimp -implicitDefEqProofs; exact parts_work hwk h10
      | true =>
      simp -dsimp -implicitDefEqProofs
      refine loop_rule (ι := Nat) (fun i => i ≤ ms.length ∧ ∀ m ∈ ms.take i, MoverOk m w = true) (fun i => stOf [(1, .box 1 0), (3, .c (.i x.Reaches.length)), (4, .c (.i k)), (5, .c (.i i))] [(1, .box (x.enc.map .c))]) (fun i => ms.length - i) 0 (by simp) (by apply le_of <;> simp [AV.refs1, AV.ref0, Obj.refs1]) ?_
      rintro i ⟨hi, hall2⟩
      rcases Nat.lt_or_ge i ms.length with hlt2 | hge2
      · obtain ⟨m, hmm⟩ : ∃ w, ms[i]? = some w := ⟨_, List.getElem?_eq_getElem hlt2⟩
        have g2 := (List.getElem?_eq_some_iff.1 hmm).2
        simp -dsimp -implicitDefEqProofs [hw, gw, hlt, lt_t hlt, hm, gm, hkm, lt_t hkm, hmm, g2, lt_t hlt2, hlt2]
        intro _
        first
          | refine call_lend (MoverOk_spec m w (hsm.2 m (List.mem_of_getElem? hmm))) (by simp) rfl ?_
          | refine call_pure (MoverOk_spec m w (hsm.2 m (List.mem_of_getElem? hmm))) (by simp) rfl ?_
          | refine ⟨_, _, MoverOk_spec m w (hsm.2 m (List.mem_of_getElem? hmm)), by simp, .inr rfl, ?_⟩
          | refine ⟨_, _, MoverOk_spec m w (hsm.2 m (List.mem_of_getElem? hmm)), by simp, .inl rfl, ?_⟩
          | refine callE_pure (MoverOk_spec m w (hsm.2 m (List.mem_of_getElem? hmm))) (by simp) (.inr rfl) ?_
          | refine callE_pure (MoverOk_spec m w (hsm.2 m (List.mem_of_getElem? hmm))) (by simp) (.inl rfl) ?_
        cases h8 : MoverOk m w with
        | false => simp -dsimp -implicitDefEqProofs; exact parts_lane hw hm (lane3 hmm h8)
        | true =>
          simp -dsimp -implicitDefEqProofs
          refine ⟨inI_succ hlt2 hlm, i + 1, ⟨hlt2, all_take_succ (p := fun m => MoverOk m w) hmm hall2 h8⟩, by omega, ?_⟩
          apply le_of <;> simp [AV.refs1, AV.ref0, Obj.refs1]
      · have h9 := all_of_take (p := fun m => MoverOk m w) hge2 hall2
        have hlane : laneOk (w, ms) = true := by
          have : ms.length ≤ 24 := by omega
          simp [laneOk, h6, this, h9]
        simp -dsimp -implicitDefEqProofs [hm, gm, hkm, lt_t hkm, lt_f hge2]
        refine fun _ => ⟨by unfold maxLen at hlen; unfold inI; omega, k + 1, ⟨hlt, fun a b hab => all_take_succ (p := laneOk) hp hall hlane (a, b) hab, all_take_succ (p := WorkOk) hwk hallw h10⟩, by omega, ?_⟩
        apply le_of <;> simp [AV.refs1, AV.ref0, Obj.refs1]
    · have hwa : x.Works.take (k + 1) = x.Works.take k := by rw [List.take_of_length_le (by omega), List.take_of_length_le (by omega)]
      refine loop_rule (ι := Nat) (fun i => i ≤ ms.length ∧ ∀ m ∈ ms.take i, MoverOk m w = true) (fun i => stOf [(1, .box 1 0), (3, .c (.i x.Reaches.length)), (4, .c (.i k)), (5, .c (.i i))] [(1, .box (x.enc.map .c))]) (fun i => ms.length - i) 0 (by simp) (by apply le_of <;> simp [AV.refs1, AV.ref0, Obj.refs1]) ?_
      rintro i ⟨hi, hall2⟩
      rcases Nat.lt_or_ge i ms.length with hlt2 | hge2
      · obtain ⟨m, hmm⟩ : ∃ w, ms[i]? = some w := ⟨_, List.getElem?_eq_getElem hlt2⟩
        have g2 := (List.getElem?_eq_some_iff.1 hmm).2
        simp -dsimp -implicitDefEqProofs [hw, gw, hlt, lt_t hlt, hm, gm, hkm, lt_t hkm, hmm, g2, lt_t hlt2, hlt2]
        intro _
        first
          | refine call_lend (MoverOk_spec m w (hsm.2 m (List.mem_of_getElem? hmm))) (by simp) rfl ?_
          | refine call_pure (MoverOk_spec m w (hsm.2 m (List.mem_of_getElem? hmm))) (by simp) rfl ?_
          | refine ⟨_, _, MoverOk_spec m w (hsm.2 m (List.mem_of_getElem? hmm)), by simp, .inr rfl, ?_⟩
          | refine ⟨_, _, MoverOk_spec m w (hsm.2 m (List.mem_of_getElem? hmm)), by simp, .inl rfl, ?_⟩
          | refine callE_pure (MoverOk_spec m w (hsm.2 m (List.mem_of_getElem? hmm))) (by simp) (.inr rfl) ?_
          | refine callE_pure (MoverOk_spec m w (hsm.2 m (List.mem_of_getElem? hmm))) (by simp) (.inl rfl) ?_
        cases h8 : MoverOk m w with
        | false => simp -dsimp -implicitDefEqProofs; exact parts_lane hw hm (lane3 hmm h8)
        | true =>
          simp -dsimp -implicitDefEqProofs
          refine ⟨inI_succ hlt2 hlm, i + 1, ⟨hlt2, all_take_succ (p := fun m => MoverOk m w) hmm hall2 h8⟩, by omega, ?_⟩
          apply le_of <;> simp [AV.refs1, AV.ref0, Obj.refs1]
      · have h9 := all_of_take (p := fun m => MoverOk m w) hge2 hall2
        have hlane : laneOk (w, ms) = true := by
          have : ms.length ≤ 24 := by omega
          simp [laneOk, h6, this, h9]
        simp -dsimp -implicitDefEqProofs [hm, gm, hkm, lt_t hkm, lt_f hge2]
        refine fun _ => ⟨by unfold maxLen at hlen; unfold inI; omega, k + 1, ⟨hlt, fun a b hab => all_take_succ (p := laneOk) hp hall hlane (a, b) hab, by rw [hwa]; exact hallw⟩, by omega, ?_⟩
        apply le_of <;> simp [AV.refs1, AV.ref0, Obj.refs1]
  · simp -dsimp -implicitDefEqProofs [lt_f hge]
    refine ⟨by omega, fun _ => ?_⟩
    have hl := all_of_take (p := laneOk) (by rw [hz]; exact hge) hall
    have h9 := all_of_take (p := WorkOk) (l := x.Works) (k := k) (by omega) hallw
    have h2' : 2 ≤ x.Reaches.length := by omega
    simp [partsOk, h1, h2', h3', h4', h5', hl, h9]
theorem l09Lists_c (x : Waterway) (hs : x.small) : PureF Tryz.prog n_spec_l09Lists [.agg (x.enc.map .c)] (.c (.b (listsOk x))) := by
  have hsA := hs.2.2.2.2.1
  have hsP := hs.2.2.2.2.2.2.2.2
  refine pure_of h_spec_l09Lists (by simp) fun hwf => ?_
  simp -dsimp -implicitDefEqProofs [c_spec_l09Lists]
  intro hlA
  first
    | refine ⟨fun h3 => (lno1 (by omega)), fun h3 => ?_⟩
    | refine ⟨fun h3 => ?_, fun h3 => (lno1 (by omega))⟩
  intro hlE
  first
    | refine ⟨fun h4 => (lno2 (by omega)), fun h4 => ?_⟩
    | refine ⟨fun h4 => ?_, fun h4 => (lno2 (by omega))⟩
  intro hlP
  first
    | refine ⟨fun h5 => (lno3 (by omega)), fun h5 => ?_⟩
    | refine ⟨fun h5 => ?_, fun h5 => (lno3 (by omega))⟩
  refine loop_rule (ι := Nat) (fun k => k ≤ x.Arrived.length ∧ ∀ t ∈ x.Arrived.take k, TrainOk t = true) (fun k => stOf [(1, .box 1 0), (3, .c (.i k))] [(1, .box (x.enc.map .c))]) (fun k => x.Arrived.length - k) 0 (by simp) (by apply le_of <;> simp [AV.refs1, AV.ref0, Obj.refs1]) ?_
  rintro k ⟨hk, hall⟩
  rcases Nat.lt_or_ge k x.Arrived.length with hlt | hge
  · obtain ⟨t, ht⟩ : ∃ w, x.Arrived[k]? = some w := ⟨_, List.getElem?_eq_getElem hlt⟩
    have g1 := (List.getElem?_eq_some_iff.1 ht).2
    simp -dsimp -implicitDefEqProofs [ht, g1, hlt, lt_t hlt]
    intro _
    first
      | refine call_lend (TrainOk_spec t (hsA.2 t (List.mem_of_getElem? ht))) (by simp) rfl ?_
      | refine call_pure (TrainOk_spec t (hsA.2 t (List.mem_of_getElem? ht))) (by simp) rfl ?_
      | refine ⟨_, _, TrainOk_spec t (hsA.2 t (List.mem_of_getElem? ht)), by simp, .inr rfl, ?_⟩
      | refine ⟨_, _, TrainOk_spec t (hsA.2 t (List.mem_of_getElem? ht)), by simp, .inl rfl, ?_⟩
      | refine callE_pure (TrainOk_spec t (hsA.2 t (List.mem_of_getElem? ht))) (by simp) (.inr rfl) ?_
      | refine callE_pure (TrainOk_spec t (hsA.2 t (List.mem_of_getElem? ht))) (by simp) (.inl rfl) ?_
    cases h6 : TrainOk t with
    | false => simp -dsimp -implicitDefEqProofs; exact lno4 ht h6
    | true =>
      simp -dsimp -implicitDefEqProofs
      refine ⟨inI_succ hlt hlA, k + 1, ⟨hlt, all_take_succ (p := TrainOk) ht hall h6⟩, by omega, ?_⟩
      apply le_of <;> simp [AV.refs1, AV.ref0, Obj.refs1]
  have hA := all_of_take (p := TrainOk) hge hall
  simp -dsimp -implicitDefEqProofs [lt_f hge]
  refine fun _ => loop_rule (ι := Nat) (fun k => k ≤ x.Entered.length ∧ ∀ t ∈ x.Entered.take k, inRange t 1 9999 = true) (fun k => stOf [(1, .box 1 0), (4, .c (.i k))] [(1, .box (x.enc.map .c))]) (fun k => x.Entered.length - k) 0 (by simp) (by apply le_of <;> simp [AV.refs1, AV.ref0, Obj.refs1]) ?_
  clear hall hk hge k
  rintro k ⟨hk, hall⟩
  rcases Nat.lt_or_ge k x.Entered.length with hlt | hge
  · obtain ⟨t, ht⟩ : ∃ w, x.Entered[k]? = some w := ⟨_, List.getElem?_eq_getElem hlt⟩
    have g1 := (List.getElem?_eq_some_iff.1 ht).2
    simp -dsimp -implicitDefEqProofs [ht, g1, hlt, lt_t hlt]
    intro _
    first
      | refine call_lend (inRange_spec t 1 9999) (by simp) rfl ?_
      | refine call_pure (inRange_spec t 1 9999) (by simp) rfl ?_
      | refine ⟨_, _, inRange_spec t 1 9999, by simp, .inr rfl, ?_⟩
      | refine ⟨_, _, inRange_spec t 1 9999, by simp, .inl rfl, ?_⟩
      | refine callE_pure (inRange_spec t 1 9999) (by simp) (.inr rfl) ?_
      | refine callE_pure (inRange_spec t 1 9999) (by simp) (.inl rfl) ?_
    cases h6 : inRange t 1 9999 with
    | false => simp -dsimp -implicitDefEqProofs; exact lno5 ht h6
    | true =>
      simp -dsimp -implicitDefEqProofs
      refine ⟨inI_succ hlt hlE, k + 1, ⟨hlt, all_take_succ (p := fun n => inRange n 1 9999) ht hall h6⟩, by omega, ?_⟩
      apply le_of <;> simp [AV.refs1, AV.ref0, Obj.refs1]
  have hE := all_of_take (p := fun n => inRange n 1 9999) hge hall
  simp -dsimp -implicitDefEqProofs [lt_f hge]
  refine fun _ => loop_rule (ι := Nat) (fun k => k ≤ x.Passings.length ∧ ∀ t ∈ x.Passings.take k, passOk x.Works.length t = true) (fun k => stOf [(1, .box 1 0), (5, .c (.i k))] [(1, .box (x.enc.map .c))]) (fun k => x.Passings.length - k) 0 (by simp) (by apply le_of <;> simp [AV.refs1, AV.ref0, Obj.refs1]) ?_
  clear hall hk hge k
  rintro k ⟨hk, hall⟩
  rcases Nat.lt_or_ge k x.Passings.length with hlt | hge
  · obtain ⟨t, ht⟩ : ∃ w, x.Passings[k]? = some w := ⟨_, List.getElem?_eq_getElem hlt⟩
    have g1 := (List.getElem?_eq_some_iff.1 ht).2
    simp -dsimp -implicitDefEqProofs [ht, g1, hlt, lt_t hlt]
    intro _
    first
      | refine call_lend (inRange_spec t.Time 0 1000000) (by simp) rfl ?_
      | refine call_pure (inRange_spec t.Time 0 1000000) (by simp) rfl ?_
      | refine ⟨_, _, inRange_spec t.Time 0 1000000, by simp, .inr rfl, ?_⟩
      | refine ⟨_, _, inRange_spec t.Time 0 1000000, by simp, .inl rfl, ?_⟩
      | refine callE_pure (inRange_spec t.Time 0 1000000) (by simp) (.inr rfl) ?_
      | refine callE_pure (inRange_spec t.Time 0 1000000) (by simp) (.inl rfl) ?_
    cases h6 : inRange t.Time 0 1000000 with
    | false => simp -dsimp -implicitDefEqProofs; exact lno6 ht (by simp [passOk, h6])
    | true =>
    simp -dsimp -implicitDefEqProofs
    refine fun hlW => ⟨by unfold maxLen at hlW; unfold inI; omega, ?_⟩
    first
      | refine call_lend (inRange_spec t.Work 0 (x.Works.length - 1)) (by simp) rfl ?_
      | refine call_pure (inRange_spec t.Work 0 (x.Works.length - 1)) (by simp) rfl ?_
      | refine ⟨_, _, inRange_spec t.Work 0 (x.Works.length - 1), by simp, .inr rfl, ?_⟩
      | refine ⟨_, _, inRange_spec t.Work 0 (x.Works.length - 1), by simp, .inl rfl, ?_⟩
      | refine callE_pure (inRange_spec t.Work 0 (x.Works.length - 1)) (by simp) (.inr rfl) ?_
      | refine callE_pure (inRange_spec t.Work 0 (x.Works.length - 1)) (by simp) (.inl rfl) ?_
    cases h7 : inRange t.Work 0 (x.Works.length - 1) with
    | false => simp -dsimp -implicitDefEqProofs; exact lno6 ht (by simp [passOk, h7])
    | true =>
    simp -dsimp -implicitDefEqProofs
    first
      | refine call_lend (TrainOk_spec t.Train (hsP.2 t (List.mem_of_getElem? ht))) (by simp) rfl ?_
      | refine call_pure (TrainOk_spec t.Train (hsP.2 t (List.mem_of_getElem? ht))) (by simp) rfl ?_
      | refine ⟨_, _, TrainOk_spec t.Train (hsP.2 t (List.mem_of_getElem? ht)), by simp, .inr rfl, ?_⟩
      | refine ⟨_, _, TrainOk_spec t.Train (hsP.2 t (List.mem_of_getElem? ht)), by simp, .inl rfl, ?_⟩
      | refine callE_pure (TrainOk_spec t.Train (hsP.2 t (List.mem_of_getElem? ht))) (by simp) (.inr rfl) ?_
      | refine callE_pure (TrainOk_spec t.Train (hsP.2 t (List.mem_of_getElem? ht))) (by simp) (.inl rfl) ?_
    cases h8 : TrainOk t.Train with
    | false => simp -dsimp -implicitDefEqProofs; exact lno6 ht (by simp [passOk, h8])
    | true =>
    simp -dsimp -implicitDefEqProofs
    refine ⟨inI_succ hlt hlP, k + 1, ⟨hlt, all_take_succ (p := passOk x.Works.length) ht hall (by simp [passOk, h6, h7, h8])⟩, by omega, ?_⟩
    apply le_of <;> simp [AV.refs1, AV.ref0, Obj.refs1]
  have hP := all_of_take (p := passOk x.Works.length) hge hall
  simp -dsimp -implicitDefEqProofs [lt_f hge]
  intro _
  have a3 : x.Arrived.length ≤ 500 := by omega
  have a4 : x.Entered.length ≤ 2000 := by omega
  have a5 : x.Passings.length ≤ 500 := by omega
  simp only [listsOk, a3, a4, a5, hA, hE, hP]; simp
theorem WaterwayOk_spec (x : Waterway) (hs : x.small) : PureF Tryz.prog n_spec_WaterwayOk [.agg (x.enc.map .c)] (.c (.b (WaterwayOk x))) := by
  refine pure_of h_spec_WaterwayOk (by simp) fun hwf => ?_
  simp -dsimp -implicitDefEqProofs [c_spec_WaterwayOk]
  first
    | refine call_lend (inRange_spec x.Time 0 1000000) (by simp) rfl ?_
    | refine call_pure (inRange_spec x.Time 0 1000000) (by simp) rfl ?_
    | refine ⟨_, _, inRange_spec x.Time 0 1000000, by simp, .inr rfl, ?_⟩
    | refine ⟨_, _, inRange_spec x.Time 0 1000000, by simp, .inl rfl, ?_⟩
    | refine callE_pure (inRange_spec x.Time 0 1000000) (by simp) (.inr rfl) ?_
    | refine callE_pure (inRange_spec x.Time 0 1000000) (by simp) (.inl rfl) ?_
  cases h1 : inRange x.Time 0 1000000 with
  | false => simp -dsimp -implicitDefEqProofs; simp [WaterwayOk, h1]
  | true =>
  simp -dsimp -implicitDefEqProofs
  first
    | refine call_lend (inRange_spec x.Start 0 1000000000) (by simp) rfl ?_
    | refine call_pure (inRange_spec x.Start 0 1000000000) (by simp) rfl ?_
    | refine ⟨_, _, inRange_spec x.Start 0 1000000000, by simp, .inr rfl, ?_⟩
    | refine ⟨_, _, inRange_spec x.Start 0 1000000000, by simp, .inl rfl, ?_⟩
    | refine callE_pure (inRange_spec x.Start 0 1000000000) (by simp) (.inr rfl) ?_
    | refine callE_pure (inRange_spec x.Start 0 1000000000) (by simp) (.inl rfl) ?_
  cases h2 : inRange x.Start 0 1000000000 with
  | false => simp -dsimp -implicitDefEqProofs; simp [WaterwayOk, h2]
  | true =>
  simp -dsimp -implicitDefEqProofs
  first
    | refine call_lend (inRange_spec x.In 0 1000000000) (by simp) rfl ?_
    | refine call_pure (inRange_spec x.In 0 1000000000) (by simp) rfl ?_
    | refine ⟨_, _, inRange_spec x.In 0 1000000000, by simp, .inr rfl, ?_⟩
    | refine ⟨_, _, inRange_spec x.In 0 1000000000, by simp, .inl rfl, ?_⟩
    | refine callE_pure (inRange_spec x.In 0 1000000000) (by simp) (.inr rfl) ?_
    | refine callE_pure (inRange_spec x.In 0 1000000000) (by simp) (.inl rfl) ?_
  cases h3 : inRange x.In 0 1000000000 with
  | false => simp -dsimp -implicitDefEqProofs; simp [WaterwayOk, h3]
  | true =>
  simp -dsimp -implicitDefEqProofs
  first
    | refine call_lend (inRange_spec x.Out 0 1000000000) (by simp) rfl ?_
    | refine call_pure (inRange_spec x.Out 0 1000000000) (by simp) rfl ?_
    | refine ⟨_, _, inRange_spec x.Out 0 1000000000, by simp, .inr rfl, ?_⟩
    | refine ⟨_, _, inRange_spec x.Out 0 1000000000, by simp, .inl rfl, ?_⟩
    | refine callE_pure (inRange_spec x.Out 0 1000000000) (by simp) (.inr rfl) ?_
    | refine callE_pure (inRange_spec x.Out 0 1000000000) (by simp) (.inl rfl) ?_
  cases h4 : inRange x.Out 0 1000000000 with
  | false => simp -dsimp -implicitDefEqProofs; simp [WaterwayOk, h4]
  | true =>
  simp -dsimp -implicitDefEqProofs
  first
    | refine call_lend (l09Parts_c x hs) (by simp) rfl ?_
    | refine call_pure (l09Parts_c x hs) (by simp) rfl ?_
    | refine ⟨_, _, l09Parts_c x hs, by simp, .inr rfl, ?_⟩
    | refine ⟨_, _, l09Parts_c x hs, by simp, .inl rfl, ?_⟩
    | refine callE_pure (l09Parts_c x hs) (by simp) (.inr rfl) ?_
    | refine callE_pure (l09Parts_c x hs) (by simp) (.inl rfl) ?_
  cases h5 : partsOk x with
  | false => simp -dsimp -implicitDefEqProofs; simp [WaterwayOk, h5]
  | true =>
  simp -dsimp -implicitDefEqProofs
  first
    | refine call_lend (l09Lists_c x hs) (by simp) rfl ?_
    | refine call_pure (l09Lists_c x hs) (by simp) rfl ?_
    | refine ⟨_, _, l09Lists_c x hs, by simp, .inr rfl, ?_⟩
    | refine ⟨_, _, l09Lists_c x hs, by simp, .inl rfl, ?_⟩
    | refine callE_pure (l09Lists_c x hs) (by simp) (.inr rfl) ?_
    | refine callE_pure (l09Lists_c x hs) (by simp) (.inl rfl) ?_
  cases h6 : listsOk x with
  | false => simp -dsimp -implicitDefEqProofs; simp [WaterwayOk, h6]
  | true =>
  simp -dsimp -implicitDefEqProofs
  first
    | refine call_lend (TariffOk_spec x.Tariff) (by simp) rfl ?_
    | refine call_pure (TariffOk_spec x.Tariff) (by simp) rfl ?_
    | refine ⟨_, _, TariffOk_spec x.Tariff, by simp, .inr rfl, ?_⟩
    | refine ⟨_, _, TariffOk_spec x.Tariff, by simp, .inl rfl, ?_⟩
    | refine callE_pure (TariffOk_spec x.Tariff) (by simp) (.inr rfl) ?_
    | refine callE_pure (TariffOk_spec x.Tariff) (by simp) (.inl rfl) ?_
  cases h7 : TariffOk x.Tariff with
  | false => simp -dsimp -implicitDefEqProofs; simp [WaterwayOk, h7]
  | true =>
  simp -dsimp -implicitDefEqProofs
  first
    | refine call_lend (BookOk_spec x.Book) (by simp) rfl ?_
    | refine call_pure (BookOk_spec x.Book) (by simp) rfl ?_
    | refine ⟨_, _, BookOk_spec x.Book, by simp, .inr rfl, ?_⟩
    | refine ⟨_, _, BookOk_spec x.Book, by simp, .inl rfl, ?_⟩
    | refine callE_pure (BookOk_spec x.Book) (by simp) (.inr rfl) ?_
    | refine callE_pure (BookOk_spec x.Book) (by simp) (.inl rfl) ?_
  simp -dsimp -implicitDefEqProofs
  simp [WaterwayOk, h1, h2, h3, h4, h5, h6, h7]

end Go.Proofs.YtpcopekamgapaaaGreat
