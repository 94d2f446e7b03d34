/- Contracts of functions of this seat: what each answers, as plain Lean. -/
import Derived.Test.YtfmgadchjiplmaaMT15
import Derived.Test.YtfmgadchjiplmaaMCode11
set_option linter.all false
namespace Go.Proofs.Ytfmgadchjiplmaa
open Go.RowKit

theorem CloneB_o (es : List Boat) (hl : es.length ≤ 1048576) : OwnF Try.prog n_slices_Clone___impl_Boat_impl_Boat_ [.c (.sl 6 (es.map Boat.enc))] (.c (.ow 6 (es.map Boat.enc))) := by
  refine own_of h_slices_Clone___impl_Boat_impl_Boat_ (by simp) fun hwf => ?_
  simp -dsimp -implicitDefEqProofs [c_slices_Clone___impl_Boat_impl_Boat_, take_full]
  omega
theorem copyRows_o (xs : List (List Boat)) (hl : small_BoatSS xs) : OwnF Try.prog n_impl_copyRows [.c (.sl 1 (xs.map enc_BoatS))] (.c (.ot 1 (xs.map eo_BoatS))) := by
  refine own_of h_impl_copyRows (by simp) fun hwf => ?_
  simp -dsimp -implicitDefEqProofs [c_impl_copyRows]
  intro hlen
  have hl1 := hl.1
  refine virt_tree (k0 := 1) 3 1 (by simp) (by simp) (by decide) ?_
  refine loop_rule (ι := Nat) (fun k => k ≤ xs.length) (fun k => stOf [(3, .own 3 1 k), (6, .c (.sl 1 (xs.map enc_BoatS))), (7, .c (.i xs.length)), (8, .c (.i k))] [(3, .tr 1 0 ((xs.take k).map eo_BoatS))]) (fun k => xs.length - k) 0 (by simp) (by apply le_of <;> simp [AV.refs1, AV.ref0, Obj.refs1, Obj.leO]) ?_
  rintro k hk
  rcases Nat.lt_or_ge k xs.length with hlt | hge
  · obtain ⟨e, he⟩ : ∃ e, xs[k]? = some e := ⟨_, List.getElem?_eq_getElem hlt⟩
    have hs : xs.take (k + 1) = xs.take k ++ [e] := by rw [List.take_succ, he]; rfl
    simp -dsimp -implicitDefEqProofs [he, lt_t hlt]
    first
      | refine call_own (CloneB_o e (hl.2 e (List.mem_of_getElem? he)).1) (by simp ) (by simp [AV.closed, AV.closed1, C.closed]) (by simp [freshO]) ?_
      | refine callE_own (CloneB_o e (hl.2 e (List.mem_of_getElem? he)).1) (by simp ) (by simp [AV.closed, AV.closed1, C.closed]) (by simp [freshO]) ?_
    simp -dsimp -implicitDefEqProofs [take_full, Nat.min_eq_left hk]
    refine ⟨by omega, inI_succ hlt hlen, k + 1, hlt, by omega, ?_⟩
    have hs2 : (xs.map eo_BoatS).take (k + 1) = (xs.map eo_BoatS).take k ++ [[.ow 6 (e.map Boat.enc)]] := by rw [← List.map_take, ← List.map_take, hs, List.map_append]; rfl
    apply le_of <;> simp [AV.refs1, AV.ref0, Obj.refs1, Obj.leO, hs2]
  · have : k = xs.length := by omega
    subst this
    simp -dsimp -implicitDefEqProofs [take_full]
    try simp
theorem copyTrain_o (e : Train) (hl : Train.small e) : OwnF Try.prog n_impl_copyTrain [.agg (e.enc.map .c)] (.agg (e.oenc.map .c)) := by
  refine own_of h_impl_copyTrain (by simp) fun hwf => ?_
  simp -dsimp -implicitDefEqProofs [c_impl_copyTrain]
  refine callE_own (copyRows_o e.Rows hl) (by simp) (by simp [AV.closed, AV.closed1, C.closed, eo_BoatS]) (by simp [freshO]) ?_
  simp -dsimp -implicitDefEqProofs [take_full]
theorem PaceOf_in2 (t : Train) (d : Int) : 0 ≤ PaceOf t d ∧ PaceOf t d ≤ 51 := by
  have := SpeedOf_in t
  unfold PaceOf
  split
  · split
    · rw [Int.tdiv_eq_ediv_of_nonneg (by omega)]; omega
    · omega
  · omega
theorem moverFacts2 {m : Mover} {w : Way} (h : MoverOk m w = true) : (1 ≤ w.Long ∧ w.Long ≤ 10000) ∧ (0 ≤ m.Place ∧ m.Place ≤ w.Long) := by
  simp only [MoverOk, Bool.and_eq_true] at h
  exact ⟨(WayOk_bed h.1.1).1, inRange_iff.1 h.2⟩
def newPlace (m : Mover) (w : Way) (r : Reach) : Int :=
  if m.Train.Up then (if 0 < m.Place - PaceOf m.Train (DepthIn w r) then m.Place - PaceOf m.Train (DepthIn w r) else 0)
  else if m.Place + PaceOf m.Train (DepthIn w r) < w.Long then m.Place + PaceOf m.Train (DepthIn w r) else w.Long
def MoveOne (m : Mover) (w : Way) (r : Reach) : Mover := if MoverOk m w && ReachOk r then ⟨m.Train, newPlace m w r⟩ else m
theorem moved_c (m : Mover) (w : Way) (r : Reach) (hm : m.small) : PureF Try.prog n_impl_moved [.agg (m.enc.map .c), .agg (w.enc.map .c), .agg (r.enc.map .c)] (.agg ((MoveOne m w r).enc.map .c)) := by
  refine pure_of h_impl_moved (by simp) fun hwf => ?_
  simp -dsimp -implicitDefEqProofs [c_impl_moved]
  first
    | refine call_lend (MoverOk_impl m w hm) (by simp) rfl ?_
    | refine call_pure (MoverOk_impl m w hm) (by simp) rfl ?_
    | refine ⟨_, _, MoverOk_impl m w hm, by simp, .inr rfl, ?_⟩
    | refine ⟨_, _, MoverOk_impl m w hm, by simp, .inl rfl, ?_⟩
    | refine callE_pure (MoverOk_impl m w hm) (by simp) (.inr rfl) ?_
    | refine callE_pure (MoverOk_impl m w hm) (by simp) (.inl rfl) ?_
  cases h1 : MoverOk m w with
  | false => simp -dsimp -implicitDefEqProofs; simp [MoveOne, h1]
  | true =>
    simp -dsimp -implicitDefEqProofs
    first
      | refine call_lend (ReachOk_impl r) (by simp) rfl ?_
      | refine call_pure (ReachOk_impl r) (by simp) rfl ?_
      | refine ⟨_, _, ReachOk_impl r, by simp, .inr rfl, ?_⟩
      | refine ⟨_, _, ReachOk_impl r, by simp, .inl rfl, ?_⟩
      | refine callE_pure (ReachOk_impl r) (by simp) (.inr rfl) ?_
      | refine callE_pure (ReachOk_impl r) (by simp) (.inl rfl) ?_
    cases h2 : ReachOk r with
    | false => simp -dsimp -implicitDefEqProofs; simp [MoveOne, h2]
    | true =>
      simp -dsimp -implicitDefEqProofs
      first
        | refine call_lend (DepthIn_impl w r) (by simp) rfl ?_
        | refine call_pure (DepthIn_impl w r) (by simp) rfl ?_
        | refine ⟨_, _, DepthIn_impl w r, by simp, .inr rfl, ?_⟩
        | refine ⟨_, _, DepthIn_impl w r, by simp, .inl rfl, ?_⟩
        | refine callE_pure (DepthIn_impl w r) (by simp) (.inr rfl) ?_
        | refine callE_pure (DepthIn_impl w r) (by simp) (.inl rfl) ?_
      simp -dsimp -implicitDefEqProofs
      first
        | refine call_lend (PaceOf_impl m.Train (DepthIn w r) hm) (by simp) rfl ?_
        | refine call_pure (PaceOf_impl m.Train (DepthIn w r) hm) (by simp) rfl ?_
        | refine ⟨_, _, PaceOf_impl m.Train (DepthIn w r) hm, by simp, .inr rfl, ?_⟩
        | refine ⟨_, _, PaceOf_impl m.Train (DepthIn w r) hm, by simp, .inl rfl, ?_⟩
        | refine callE_pure (PaceOf_impl m.Train (DepthIn w r) hm) (by simp) (.inr rfl) ?_
        | refine callE_pure (PaceOf_impl m.Train (DepthIn w r) hm) (by simp) (.inl rfl) ?_
      have hp := PaceOf_in2 m.Train (DepthIn w r)
      have hf := moverFacts2 h1
      cases hu : m.Train.Up with
      | true =>
        simp -dsimp -implicitDefEqProofs [hu]
        refine ⟨by unfold inI; omega, ?_⟩
        simp [MoveOne, h1, h2, newPlace, hu]
      | false =>
        simp -dsimp -implicitDefEqProofs [hu]
        refine ⟨by unfold inI; omega, ?_⟩
        simp [MoveOne, h1, h2, newPlace, hu]
theorem MoveOne_train {m : Mover} {w : Way} {r : Reach} : (MoveOne m w r).Train = m.Train := by unfold MoveOne; split <;> rfl
theorem MoveOne_impl (m : Mover) (w : Way) (r : Reach) (hm : m.small) : OwnF Try.prog n_impl_MoveOne [.agg (m.enc.map .c), .agg (w.enc.map .c), .agg (r.enc.map .c)] (.agg ((MoveOne m w r).oenc.map .c)) := by
  refine own_of h_impl_MoveOne (by simp) fun hwf => ?_
  simp -dsimp -implicitDefEqProofs [c_impl_MoveOne]
  first
    | refine call_lend (moved_c m w r hm) (by simp) rfl ?_
    | refine call_pure (moved_c m w r hm) (by simp) rfl ?_
    | refine ⟨_, _, moved_c m w r hm, by simp, .inr rfl, ?_⟩
    | refine ⟨_, _, moved_c m w r hm, by simp, .inl rfl, ?_⟩
    | refine callE_pure (moved_c m w r hm) (by simp) (.inr rfl) ?_
    | refine callE_pure (moved_c m w r hm) (by simp) (.inl rfl) ?_
  simp -dsimp -implicitDefEqProofs
  refine call_own (copyTrain_o m.Train hm) (by simp) (by simp [AV.closed, AV.closed1, C.closed, eo_BoatS]) (by simp [freshO]) ?_
  simp -dsimp -implicitDefEqProofs [take_full, MoveOne_train]
theorem MoveOne_implP (m : Mover) (w : Way) (r : Reach) (hm : m.small) : PureF Try.prog n_impl_MoveOne [.agg (m.enc.map .c), .agg (w.enc.map .c), .agg (r.enc.map .c)] (.agg ((MoveOne m w r).enc.map .c)) := (MoveOne_impl m w r hm).pure (by simp [AV.shr, AV.shr1, shrl, cshr_ot eo_BoatS_shr])
theorem wOf_bsl {k : Nat} {xs : List X} {s : St} : wOf (.bsl k xs) s = (xs.map s.ev).flatMap AV.ids := rfl
theorem l04Copy_c (e : Train) (hl : Train.small e) : PureF Try.prog n_spec_l04Copy [.agg (e.enc.map .c)] (.agg (e.enc.map .c)) := by
  refine pure_of h_spec_l04Copy (by simp) fun hwf => ?_
  simp -dsimp -implicitDefEqProofs [c_spec_l04Copy]
  have hl1 := hl.1
  refine loop_rule (ι := Nat) (fun k => k ≤ e.Rows.length) (fun k => match k with
    | 0 => stOf [(1, .box 1 0), (2, .box 2 0), (3, .box 3 0), (4, .c (.i 0))] [(1, .box [.c (.b e.Up), .c (.sl 1 (e.Rows.map enc_BoatS))]), (2, .box [.c (.b false), .nil 1]), (3, .box [.c (.b e.Up), .nil 1])]
    | k + 1 => stOf [(1, .box 1 0), (2, .box 2 0), (3, .box 3 0), (4, .c (.i (k + 1)))] [(1, .box [.c (.b e.Up), .c (.sl 1 (e.Rows.map enc_BoatS))]), (2, .box [.c (.b false), .nil 1]), (3, .box [.c (.b e.Up), .own 25 1 (k + 1)]), (25, .tr 1 0 ((e.Rows.map eo_BoatS).take (k + 1)))]) (fun k => e.Rows.length - k) 0 (by simp) (by apply le_of <;> simp [AV.refs1, AV.ref0, Obj.refs1, Obj.leO]) ?_
  rintro k hk
  rcases k with _ | k
  · rcases Nat.lt_or_ge 0 e.Rows.length with hlt | hge
    · obtain ⟨r, he⟩ : ∃ r, e.Rows[0]? = some r := ⟨_, List.getElem?_eq_getElem hlt⟩
      have h0 : (0 < e.Rows.length) = True := by simpa using hlt
      have hgr : e.Rows[0] = r := (List.getElem?_eq_some_iff.1 he).2
      have hrl := (hl.2 r (List.mem_of_getElem? he)).1
      simp -dsimp -implicitDefEqProofs [he, h0, hgr, take_full, wOf_bsl]
      intro hlen
      refine ⟨by omega, by unfold inI; omega, 1, hlt, by omega, ?_⟩
      have hs2 : (e.Rows.map eo_BoatS).take 1 = [[.ow 6 (r.map Boat.enc)]] := by
        obtain ⟨y, l, hy⟩ : ∃ y l, e.Rows = y :: l := by cases hr : e.Rows with | nil => rw [hr] at hlt; simp at hlt | cons y l => exact ⟨y, l, rfl⟩
        rw [hy] at he ⊢; simp at he; subst he; rfl
      apply le_of <;> simp [AV.refs1, AV.ref0, Obj.refs1, Obj.leO, hs2]
    · have hx : e.Rows = [] := List.length_eq_zero_iff.1 (by omega)
      have h0 : (0 < e.Rows.length) = False := by simp [hx]
      simp -dsimp -implicitDefEqProofs [h0]
      simp [hx]
  · rcases Nat.lt_or_ge (k + 1) e.Rows.length with hlt | hge
    · obtain ⟨r, he⟩ : ∃ r, e.Rows[k + 1]? = some r := ⟨_, List.getElem?_eq_getElem hlt⟩
      have h0 : ((k : Int) + 1 < e.Rows.length) = True := by simp; omega
      have h1 : (0 ≤ (k : Int) + 1) = True := by simp; omega
      have h2 : ((k : Int) + 1).toNat = k + 1 := by omega
      have hrl := (hl.2 r (List.mem_of_getElem? he)).1
      simp -dsimp -implicitDefEqProofs [he, h0, h1, h2, take_full, wOf_bsl]
      intro hlen
      refine ⟨by omega, by omega, by omega, by unfold inI; omega, k + 2, hlt, by omega, ?_⟩
      have hs2 : (e.Rows.map eo_BoatS).take (k + 2) = (e.Rows.map eo_BoatS).take (k + 1) ++ [[.ow 6 (r.map Boat.enc)]] := by
        rw [List.take_succ, List.getElem?_map, he]; rfl
      apply le_of <;> simp [AV.refs1, AV.ref0, Obj.refs1, Obj.leO, hs2] <;> omega
    · have h0 : ((k : Int) + 1 < e.Rows.length) = False := by simp; omega
      have hx : e.Rows.length = k + 1 := by omega
      simp -dsimp -implicitDefEqProofs [h0]
      intro _
      have e1 : (e.Rows.map eo_BoatS).take (k + 1) = e.Rows.map eo_BoatS := List.take_of_length_le (by simp; omega)
      rw [e1, e1, shrs_map eo_BoatS_shr]
      simp

end Go.Proofs.Ytfmgadchjiplmaa
