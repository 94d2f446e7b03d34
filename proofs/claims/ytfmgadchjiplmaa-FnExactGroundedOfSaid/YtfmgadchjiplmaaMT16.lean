/- Contracts of functions of this seat: what each answers, as plain Lean. -/
import Derived.Test.YtfmgadchjiplmaaMT15
import Derived.Test.YtfmgadchjiplmaaMT18
set_option linter.all false
namespace Go.Proofs.Ytfmgadchjiplmaa
open Go.RowKit

-- []Mover
def sz_MoverS : List Mover → Int → Int := szSS sz_Mover
def small_MoverS : List Mover → Prop := smallS Mover.small
theorem sz_MoverS_ok : SzOk sz_MoverS small_MoverS := szSS_ok sz_Mover_ok
theorem sz_MoverS_c (xs : List Mover) (l : Int) (h0 : 0 ≤ l) (h1 : l ≤ 1048576) : PureF Try.prog n_laws_szMoverS [.c (.sl 3 (xs.map Mover.enc)), .c (.i l)] (.c (.i (sz_MoverS xs l))) := by
  refine pure_of h_laws_szMoverS (by simp) fun hwf => ?_
  simp -dsimp -implicitDefEqProofs [c_laws_szMoverS]
  intro hl
  have hs : szS xs.length l = if l - xs.length < 0 then -1 else l - xs.length := rfl
  refine ⟨by unfold maxLen at hl; unfold inI; omega, fun h => ?_, fun h => ?_⟩
  · simp [sz_MoverS, szSS, andSz, hs, h]
  have h' : 0 ≤ l - xs.length := by omega
  have e0 : sz_MoverS xs l = foldSz sz_Mover xs (l - xs.length) := by
    have : szS xs.length l = l - xs.length := by rw [hs, if_neg (by omega)]
    simp only [sz_MoverS, szSS]
    rw [this, andSz_pos h']
  refine loop_rule (ι := Nat × Int) (fun p => p.1 ≤ xs.length ∧ 0 ≤ p.2 ∧ p.2 ≤ 1048576 ∧ foldSz sz_Mover (xs.drop p.1) p.2 = sz_MoverS xs l) (fun p => stOf [(0, .c (.sl 3 (xs.map Mover.enc))), (1, .c (.i p.2)), (5, .c (.i p.1))] []) (fun p => xs.length - p.1) (0, l - xs.length) ⟨by simp, h', by simp only; omega, by simp [e0]⟩ (by apply le_of <;> simp [AV.refs1, AV.ref0, Obj.refs1]) ?_
  rintro ⟨k, q⟩ ⟨hk, hq0, hq1, hf⟩
  simp only at hk hq0 hq1 hf
  rcases Nat.lt_or_ge k xs.length with hlt | hge
  · obtain ⟨e, he⟩ : ∃ e, xs[k]? = some e := ⟨_, List.getElem?_eq_getElem hlt⟩
    have hd : xs.drop k = e :: xs.drop (k + 1) := by
      rw [List.drop_eq_getElem_cons hlt, (List.getElem?_eq_some_iff.1 he).2]
    rw [hd, foldSz] at hf
    simp -dsimp -implicitDefEqProofs [he, lt_t hlt]
    refine fun _ => call_lend (sz_Mover_c e q hq0 hq1) (by simp) rfl ?_
    simp -dsimp -implicitDefEqProofs
    refine ⟨fun h => by rw [← hf, andSz_neg h], fun h => ⟨inI_succ hlt hl, k + 1, ⟨sz_Mover e q, ?_⟩⟩⟩
    rw [andSz_pos h] at hf
    have hle : sz_Mover e q ≤ 1048576 := by
      rcases sz_Mover_ok e q hq0 hq1 with e1 | e1
      · omega
      · omega
    exact ⟨⟨hlt, h, hle, hf⟩, by omega, by apply le_of <;> simp [AV.refs1, AV.ref0, Obj.refs1]⟩
  · simp -dsimp -implicitDefEqProofs [lt_f hge]
    rw [List.drop_of_length_le hge] at hf
    intro _
    first | simpa [foldSz] using hf | simpa [foldSz] using hf.symm
theorem toMoverS_c (xs : List Mover) (hl : small_MoverS xs) : PureF Try.prog n_laws_toMoverS [.c (.sl 3 (xs.map Mover.enc))] (.c (.sl 3 (xs.map Mover.enc))) := by
  refine pure_of h_laws_toMoverS (by simp) fun hwf => ?_
  simp -dsimp -implicitDefEqProofs [c_laws_toMoverS]
  intro hlen
  have hl1 := hl.1
  refine ⟨by omega, ?_⟩
  refine loop_rule (ι := Nat) (fun k => k ≤ xs.length) (fun k => stOf [(0, .c (.sl 3 (xs.map Mover.enc))), (3, .own 7 3 xs.length), (4, .c (.i k))] [(7, .row 3 (partly Mover.enc [.b false, .sl 1 [], .i 0] xs k))]) (fun k => xs.length - k) 0 (by simp) (by apply le_of <;> simp [AV.refs1, AV.ref0, Obj.refs1, partly_zero]) ?_
  rintro k hk
  rcases Nat.lt_or_ge k xs.length with hlt | hge
  · obtain ⟨e, he⟩ : ∃ e, xs[k]? = some e := ⟨_, List.getElem?_eq_getElem hlt⟩
    have hs := partly_set (f := Mover.enc) (z := [.b false, .sl 1 [], .i 0]) he
    have hd := partly_drop (f := Mover.enc) (z := [.b false, .sl 1 [], .i 0]) (n := 3) rfl hlt
    simp only [Mover.enc] at hs
    simp -dsimp -implicitDefEqProofs [he, lt_t hlt]
    refine fun _ => call_pure (toMover_c e (hl.2 e (List.mem_of_getElem? he))) (by simp) rfl ?_
    simp -dsimp -implicitDefEqProofs [lt_t hlt, partly_len hk, hd, hs]
    exact ⟨hlt, inI_succ hlt hlen, k + 1, hlt, by omega, by apply le_of <;> simp [AV.refs1, AV.ref0, Obj.refs1]⟩
  · simp -dsimp -implicitDefEqProofs [lt_f hge]
    intro _
    rw [partly_all hge, List.take_of_length_le (by simp)]
theorem eqMoverS_c (es fs : List Mover) : PureF Try.prog n_laws_eqMoverS [.c (.sl 3 (es.map Mover.enc)), .c (.sl 3 (fs.map Mover.enc))] (.c (.b (decide (es = fs)))) := by
  refine pure_of h_laws_eqMoverS (by simp) fun hwf => ?_
  simp -dsimp -implicitDefEqProofs [c_laws_eqMoverS]
  intro hl1 hl2
  refine ⟨fun h e => h (by rw [e]), fun hlen => ?_⟩
  have hlen' : es.length = fs.length := by omega
  refine loop_rule (ι := Nat) (fun k => k ≤ es.length ∧ es.take k = fs.take k) (fun k => stOf [(0, .c (.sl 3 (es.map Mover.enc))), (1, .c (.sl 3 (fs.map Mover.enc))), (5, .c (.i k))] []) (fun k => es.length - k) 0 (by simp) (by apply le_of <;> simp [AV.refs1, AV.ref0, Obj.refs1]) ?_
  rintro k ⟨hk, htk⟩
  rcases Nat.lt_or_ge k es.length with hlt | hge
  · obtain ⟨e, he⟩ : ∃ e, es[k]? = some e := ⟨_, List.getElem?_eq_getElem hlt⟩
    obtain ⟨f, hf⟩ : ∃ f, fs[k]? = some f := ⟨_, List.getElem?_eq_getElem (by omega)⟩
    simp -dsimp -implicitDefEqProofs [he, hf, lt_t hlt, lt_t (hlen' ▸ hlt)]
    intro _
    refine ⟨_, _, eqMover_c e f, by simp, .inr rfl, ?_⟩
    simp -dsimp -implicitDefEqProofs
    refine ⟨fun h => ne_of_get he hf h, fun h => ⟨inI_succ hlt hl1, k + 1, ⟨hlt, take_eq_succ he hf htk h⟩, by omega, by apply le_of <;> simp [AV.refs1, AV.ref0, Obj.refs1]⟩⟩
  · simp -dsimp -implicitDefEqProofs [lt_f hge]
    intro _
    exact eq_of_take hge hlen' htk
/-! The movers that have no pace. -/
def firstId (t : Train) : Int := (IdsOf t)[0]?.getD 0
def grounded (w : Way) (r : Reach) (m : Mover) : Bool := MoverOk m w && decide (PaceOf m.Train (DepthIn w r) = 0)
def gId (m : Mover) : Int := firstId m.Train
def groundTo (ms : List Mover) (w : Way) (r : Reach) (k : Nat) : List Int := ((ms.take k).filter (grounded w r)).map gId
def GroundedOf (ms : List Mover) (w : Way) (r : Reach) : List Int := if WayOk w && ReachOk r then (ms.filter (grounded w r)).map gId else []
section
variable {ms : List Mover} {w : Way} {r : Reach} {k : Nat} {m : Mover}
theorem groundTo_zero : groundTo ms w r 0 = [] := rfl
theorem groundTo_yes (h : ms[k]? = some m) (hg : grounded w r m = true) : groundTo ms w r (k + 1) = groundTo ms w r k ++ [gId m] := by
  unfold groundTo; rw [List.take_succ, h, List.filter_append, List.map_append]; simp [hg]
theorem groundTo_no (h : ms[k]? = some m) (hg : grounded w r m = false) : groundTo ms w r (k + 1) = groundTo ms w r k := by
  unfold groundTo; rw [List.take_succ, h, List.filter_append, List.map_append]; simp [hg]
theorem groundTo_all (h : ms.length ≤ k) : groundTo ms w r k = (ms.filter (grounded w r)).map gId := by
  unfold groundTo; rw [List.take_of_length_le h]
theorem groundTo_len : (groundTo ms w r k).length ≤ k := by
  unfold groundTo; rw [List.length_map]
  refine Nat.le_trans (List.length_filter_le _ _) ?_
  rw [List.length_take]; omega
end
theorem GroundedOf_len (ms : List Mover) (w : Way) (r : Reach) : (GroundedOf ms w r).length ≤ ms.length := by
  unfold GroundedOf
  split
  · rw [List.length_map]; exact List.length_filter_le _ _
  · simp
theorem gId_at {m : Mover} {w : Way} (h : MoverOk m w = true) : (IdsOf m.Train)[0]? = some (gId m) := by
  simp only [MoverOk, Bool.and_eq_true] at h
  have hl : 0 < (IdsOf m.Train).length := by
    have h2 := h.1.2
    simp only [TrainOk, Bool.and_eq_true] at h2
    have := inRange_iff.1 h2.2
    simp only [IdsOf, h.1.2, if_true, List.length_map]; omega
  unfold gId firstId
  rw [List.getElem?_eq_getElem hl]; rfl
theorem GroundedOf_impl (ms : List Mover) (w : Way) (r : Reach) (hm : small_MoverS ms) : OwnF Try.prog n_impl_GroundedOf [.c (.sl 3 (ms.map Mover.enc)), .agg (w.enc.map .c), .agg (r.enc.map .c)] (.c (.ow 1 ((GroundedOf ms w r).map ienc))) := by
  refine own_of h_impl_GroundedOf (by simp) fun hwf => ?_
  simp -dsimp -implicitDefEqProofs [c_impl_GroundedOf]
  first
    | refine call_lend (WayOk_impl w) (by simp) rfl ?_
    | refine call_pure (WayOk_impl w) (by simp) rfl ?_
    | refine ⟨_, _, WayOk_impl w, by simp, .inr rfl, ?_⟩
    | refine ⟨_, _, WayOk_impl w, by simp, .inl rfl, ?_⟩
    | refine callE_pure (WayOk_impl w) (by simp) (.inr rfl) ?_
    | refine callE_pure (WayOk_impl w) (by simp) (.inl rfl) ?_
  simp -dsimp -implicitDefEqProofs
  cases hw : WayOk w with
  | false => simp -dsimp -implicitDefEqProofs; simp [GroundedOf, hw]
  | true =>
    simp -dsimp -implicitDefEqProofs
    first
      | refine call_lend (ReachOk_impl r) (by simp) rfl ?_
      | refine call_pure (ReachOk_impl r) (by simp) rfl ?_
      | refine ⟨_, _, ReachOk_impl r, by simp, .inr rfl, ?_⟩
      | refine ⟨_, _, ReachOk_impl r, by simp, .inl rfl, ?_⟩
      | refine callE_pure (ReachOk_impl r) (by simp) (.inr rfl) ?_
      | refine callE_pure (ReachOk_impl r) (by simp) (.inl rfl) ?_
    cases hr : ReachOk r with
    | false => simp -dsimp -implicitDefEqProofs; simp [GroundedOf, hr]
    | true =>
      simp -dsimp -implicitDefEqProofs
      first
        | refine call_lend (DepthIn_impl w r) (by simp) rfl ?_
        | refine call_pure (DepthIn_impl w r) (by simp) rfl ?_
        | refine ⟨_, _, DepthIn_impl w r, by simp, .inr rfl, ?_⟩
        | refine ⟨_, _, DepthIn_impl w r, by simp, .inl rfl, ?_⟩
        | refine callE_pure (DepthIn_impl w r) (by simp) (.inr rfl) ?_
        | refine callE_pure (DepthIn_impl w r) (by simp) (.inl rfl) ?_
      simp -dsimp -implicitDefEqProofs
      intro hlen
      have hl1 := hm.1
      refine virt_rule (k0 := 1) 8 1 (by simp) (by simp) (by decide) ?_
      refine loop_rule (ι := Nat) (fun k => k ≤ ms.length) (fun k => stOf [(4, .box 4 0), (7, .c (.i (DepthIn w r))), (8, .own 8 1 (groundTo ms w r k).length), (22, .c (.sl 3 (ms.map Mover.enc))), (23, .c (.i ms.length)), (24, .c (.i k))] [(4, .box [.c (.i w.Long), .c (.i w.Bed)]), (8, .row 1 ((groundTo ms w r k).map ienc))]) (fun k => ms.length - k) 0 (by simp) (by apply le_of <;> simp [AV.refs1, AV.ref0, Obj.refs1, groundTo_zero]) ?_
      rintro k hk
      have hgl := groundTo_len (ms := ms) (w := w) (r := r) (k := k)
      rcases Nat.lt_or_ge k ms.length with hlt | hge
      · obtain ⟨m, he⟩ : ∃ m, ms[k]? = some m := ⟨_, List.getElem?_eq_getElem hlt⟩
        have hms := hm.2 m (List.mem_of_getElem? he)
        simp -dsimp -implicitDefEqProofs [he, lt_t hlt]
        first
          | refine call_lend (MoverOk_impl m w hms) (by simp) rfl ?_
          | refine call_pure (MoverOk_impl m w hms) (by simp) rfl ?_
          | refine ⟨_, _, MoverOk_impl m w hms, by simp, .inr rfl, ?_⟩
          | refine ⟨_, _, MoverOk_impl m w hms, by simp, .inl rfl, ?_⟩
          | refine callE_pure (MoverOk_impl m w hms) (by simp) (.inr rfl) ?_
          | refine callE_pure (MoverOk_impl m w hms) (by simp) (.inl rfl) ?_
        cases h1 : MoverOk m w with
        | false =>
          have hn := groundTo_no (w := w) (r := r) he (by simp [grounded, h1])
          simp -dsimp -implicitDefEqProofs
          refine ⟨inI_succ hlt hlen, k + 1, hlt, by omega, ?_⟩
          apply le_of <;> simp [AV.refs1, AV.ref0, Obj.refs1, hn]
        | true =>
          simp -dsimp -implicitDefEqProofs
          first
            | refine call_lend (PaceOf_impl m.Train (DepthIn w r) hms) (by simp) rfl ?_
            | refine call_pure (PaceOf_impl m.Train (DepthIn w r) hms) (by simp) rfl ?_
            | refine ⟨_, _, PaceOf_impl m.Train (DepthIn w r) hms, by simp, .inr rfl, ?_⟩
            | refine ⟨_, _, PaceOf_impl m.Train (DepthIn w r) hms, by simp, .inl rfl, ?_⟩
            | refine callE_pure (PaceOf_impl m.Train (DepthIn w r) hms) (by simp) (.inr rfl) ?_
            | refine callE_pure (PaceOf_impl m.Train (DepthIn w r) hms) (by simp) (.inl rfl) ?_
          simp -dsimp -implicitDefEqProofs
          refine ⟨fun h2 => ?_, fun h2 => ?_⟩
          · skip
            first
              | refine call_lend (IdsOf_implP m.Train hms) (by simp) rfl ?_
              | refine call_pure (IdsOf_implP m.Train hms) (by simp) rfl ?_
              | refine ⟨_, _, IdsOf_implP m.Train hms, by simp, .inr rfl, ?_⟩
              | refine ⟨_, _, IdsOf_implP m.Train hms, by simp, .inl rfl, ?_⟩
              | refine callE_pure (IdsOf_implP m.Train hms) (by simp) (.inr rfl) ?_
              | refine callE_pure (IdsOf_implP m.Train hms) (by simp) (.inl rfl) ?_
            have hg := gId_at h1
            have hy := groundTo_yes (w := w) (r := r) he (by simp [grounded, h1, h2])
            simp -dsimp -implicitDefEqProofs [hg]
            refine ⟨(List.getElem?_eq_some_iff.1 hg).1, by omega, inI_succ hlt hlen, k + 1, hlt, by omega, ?_⟩
            apply le_of <;> simp [AV.refs1, AV.ref0, Obj.refs1, hy]
          · have hn := groundTo_no (w := w) (r := r) he (by simp [grounded, h1, h2])
            refine ⟨inI_succ hlt hlen, k + 1, hlt, by omega, ?_⟩
            apply le_of <;> simp [AV.refs1, AV.ref0, Obj.refs1, hn]
      · simp -dsimp -implicitDefEqProofs [lt_f hge]
        rw [take_full, groundTo_all hge]
        simp [GroundedOf, hw, hr]
theorem GroundedOf_implP (ms : List Mover) (w : Way) (r : Reach) (hm : small_MoverS ms) : PureF Try.prog n_impl_GroundedOf [.c (.sl 3 (ms.map Mover.enc)), .agg (w.enc.map .c), .agg (r.enc.map .c)] (.c (.sl 1 ((GroundedOf ms w r).map ienc))) := (GroundedOf_impl ms w r hm).pure (by simp)
theorem GroundedOf_spec (ms : List Mover) (w : Way) (r : Reach) (hm : small_MoverS ms) : PureF Try.prog n_spec_GroundedOf [.c (.sl 3 (ms.map Mover.enc)), .agg (w.enc.map .c), .agg (r.enc.map .c)] (.c (.sl 1 ((GroundedOf ms w r).map ienc))) := by
  refine pure_of h_spec_GroundedOf (by simp) fun hwf => ?_
  simp -dsimp -implicitDefEqProofs [c_spec_GroundedOf]
  first
    | refine call_lend (WayOk_spec w) (by simp) rfl ?_
    | refine call_pure (WayOk_spec w) (by simp) rfl ?_
    | refine ⟨_, _, WayOk_spec w, by simp, .inr rfl, ?_⟩
    | refine ⟨_, _, WayOk_spec w, by simp, .inl rfl, ?_⟩
    | refine callE_pure (WayOk_spec w) (by simp) (.inr rfl) ?_
    | refine callE_pure (WayOk_spec w) (by simp) (.inl rfl) ?_
  cases hw : WayOk w with
  | false => simp -dsimp -implicitDefEqProofs; simp [GroundedOf, hw]
  | true =>
    simp -dsimp -implicitDefEqProofs
    first
      | refine call_lend (ReachOk_spec r) (by simp) rfl ?_
      | refine call_pure (ReachOk_spec r) (by simp) rfl ?_
      | refine ⟨_, _, ReachOk_spec r, by simp, .inr rfl, ?_⟩
      | refine ⟨_, _, ReachOk_spec r, by simp, .inl rfl, ?_⟩
      | refine callE_pure (ReachOk_spec r) (by simp) (.inr rfl) ?_
      | refine callE_pure (ReachOk_spec r) (by simp) (.inl rfl) ?_
    cases hr : ReachOk r with
    | false => simp -dsimp -implicitDefEqProofs; simp [GroundedOf, hr]
    | true =>
      simp -dsimp -implicitDefEqProofs
      refine loop_rule (ι := Nat) (fun k => k ≤ ms.length) (fun k => stOf [(0, .c (.sl 3 (ms.map Mover.enc))), (4, .box 4 0), (5, .box 5 0), (7, .own 9 1 (groundTo ms w r k).length), (8, .c (.i k))] [(4, .box (w.enc.map .c)), (5, .box (r.enc.map .c)), (9, .row 1 ((groundTo ms w r k).map ienc))]) (fun k => ms.length - k) 0 (by simp) (by apply le_of <;> simp [AV.refs1, AV.ref0, Obj.refs1, groundTo_zero]) ?_
      rintro k hk
      have hgl := groundTo_len (ms := ms) (w := w) (r := r) (k := k)
      have hl1 := hm.1
      rcases Nat.lt_or_ge k ms.length with hlt | hge
      · obtain ⟨m, he⟩ : ∃ m, ms[k]? = some m := ⟨_, List.getElem?_eq_getElem hlt⟩
        have hms := hm.2 m (List.mem_of_getElem? he)
        simp -dsimp -implicitDefEqProofs [he, lt_t hlt]
        intro hlen
        first
          | refine call_lend (MoverOk_spec m w hms) (by simp) rfl ?_
          | refine call_pure (MoverOk_spec m w hms) (by simp) rfl ?_
          | refine ⟨_, _, MoverOk_spec m w hms, by simp, .inr rfl, ?_⟩
          | refine ⟨_, _, MoverOk_spec m w hms, by simp, .inl rfl, ?_⟩
          | refine callE_pure (MoverOk_spec m w hms) (by simp) (.inr rfl) ?_
          | refine callE_pure (MoverOk_spec m w hms) (by simp) (.inl rfl) ?_
        cases h1 : MoverOk m w with
        | false =>
          have hn := groundTo_no (w := w) (r := r) he (by simp [grounded, h1])
          simp -dsimp -implicitDefEqProofs
          refine ⟨inI_succ hlt hlen, k + 1, hlt, by omega, ?_⟩
          apply le_of <;> simp [AV.refs1, AV.ref0, Obj.refs1, hn]
        | true =>
          simp -dsimp -implicitDefEqProofs [he]
          refine ⟨hlt, ?_⟩
          first
            | refine call_lend (DepthIn_spec w r) (by simp) rfl ?_
            | refine call_pure (DepthIn_spec w r) (by simp) rfl ?_
            | refine ⟨_, _, DepthIn_spec w r, by simp, .inr rfl, ?_⟩
            | refine ⟨_, _, DepthIn_spec w r, by simp, .inl rfl, ?_⟩
            | refine callE_pure (DepthIn_spec w r) (by simp) (.inr rfl) ?_
            | refine callE_pure (DepthIn_spec w r) (by simp) (.inl rfl) ?_
          simp -dsimp -implicitDefEqProofs
          first
            | refine call_lend (PaceOf_spec m.Train (DepthIn w r) hms) (by simp) rfl ?_
            | refine call_pure (PaceOf_spec m.Train (DepthIn w r) hms) (by simp) rfl ?_
            | refine ⟨_, _, PaceOf_spec m.Train (DepthIn w r) hms, by simp, .inr rfl, ?_⟩
            | refine ⟨_, _, PaceOf_spec m.Train (DepthIn w r) hms, by simp, .inl rfl, ?_⟩
            | refine callE_pure (PaceOf_spec m.Train (DepthIn w r) hms) (by simp) (.inr rfl) ?_
            | refine callE_pure (PaceOf_spec m.Train (DepthIn w r) hms) (by simp) (.inl rfl) ?_
          simp -dsimp -implicitDefEqProofs [he]
          refine ⟨fun h2 => ?_, fun h2 => ?_⟩
          · refine ⟨hlt, ?_⟩
            first
              | refine call_lend (IdsOf_spec m.Train hms) (by simp) rfl ?_
              | refine call_pure (IdsOf_spec m.Train hms) (by simp) rfl ?_
              | refine ⟨_, _, IdsOf_spec m.Train hms, by simp, .inr rfl, ?_⟩
              | refine ⟨_, _, IdsOf_spec m.Train hms, by simp, .inl rfl, ?_⟩
              | refine callE_pure (IdsOf_spec m.Train hms) (by simp) (.inr rfl) ?_
              | refine callE_pure (IdsOf_spec m.Train hms) (by simp) (.inl rfl) ?_
            have hg := gId_at h1
            have hy := groundTo_yes (w := w) (r := r) he (by simp [grounded, h1, h2])
            simp -dsimp -implicitDefEqProofs [hg, he]
            refine ⟨(List.getElem?_eq_some_iff.1 hg).1, by omega, inI_succ hlt hlen, k + 1, hlt, by omega, ?_⟩
            apply le_of <;> simp [AV.refs1, AV.ref0, Obj.refs1, hy]
          · have hn := groundTo_no (w := w) (r := r) he (by simp [grounded, h1, h2])
            refine ⟨inI_succ hlt hlen, k + 1, hlt, by omega, ?_⟩
            apply le_of <;> simp [AV.refs1, AV.ref0, Obj.refs1, hn]
      · simp -dsimp -implicitDefEqProofs [lt_f hge]
        intro _
        rw [take_full, groundTo_all hge]
        simp [GroundedOf, hw, hr]

end Go.Proofs.Ytfmgadchjiplmaa
