/- Contracts of functions of this seat: what each answers, as plain Lean. -/
import Derived.Test.YtfmgadchjiplmaaMT7
import Derived.Test.YtfmgadchjiplmaaMTy1
import Derived.Test.YtfmgadchjiplmaaMCode3
import Derived.Test.YtfmgadchjiplmaaMCode4
set_option linter.all false
namespace Go.Proofs.Ytfmgadchjiplmaa
open Go.RowKit

theorem toBoatS_o (xs : List Boat) (hl : small_BoatS xs) : OwnF Try.prog n_laws_toBoatS [.c (.sl 6 (xs.map Boat.enc))] (.c (.ow 6 (xs.map Boat.enc))) := by
  refine own_of h_laws_toBoatS (by simp) fun hwf => ?_
  simp -dsimp -implicitDefEqProofs [c_laws_toBoatS]
  intro hlen
  have hl1 := hl.1
  refine ⟨by omega, ?_⟩
  refine loop_rule (ι := Nat) (fun k => k ≤ xs.length) (fun k => stOf [(0, .c (.sl 6 (xs.map Boat.enc))), (3, .own 7 6 xs.length), (4, .c (.i k))] [(7, .row 6 (partly Boat.enc [.i 0, .i 0, .i 0, .i 0, .i 0, .i 0] xs k))]) (fun k => xs.length - k) 0 (by simp) (by apply le_of <;> simp [AV.refs1, AV.ref0, Obj.refs1, partly_zero]) ?_
  rintro k hk
  rcases Nat.lt_or_ge k xs.length with hlt | hge
  · obtain ⟨e, he⟩ : ∃ e, xs[k]? = some e := ⟨_, List.getElem?_eq_getElem hlt⟩
    have hs := partly_set (f := Boat.enc) (z := [.i 0, .i 0, .i 0, .i 0, .i 0, .i 0]) he
    have hd := partly_drop (f := Boat.enc) (z := [.i 0, .i 0, .i 0, .i 0, .i 0, .i 0]) (n := 6) rfl hlt
    simp only [Boat.enc] at hs
    simp -dsimp -implicitDefEqProofs [he, lt_t hlt]
    refine fun _ => call_pure (toBoat_c e ) (by simp) rfl ?_
    simp -dsimp -implicitDefEqProofs [lt_t hlt, partly_len hk, hd, hs]
    exact ⟨hlt, inI_succ hlt hlen, k + 1, hlt, by omega, by apply le_of <;> simp [AV.refs1, AV.ref0, Obj.refs1]⟩
  · simp -dsimp -implicitDefEqProofs [lt_f hge]
    intro _
    rw [partly_all hge, List.take_of_length_le (by simp)]
theorem shrs_map {α : Type} {f g : α → List C} (h : ∀ x, shrl (f x) = some (g x)) : ∀ (l : List α), shrs (l.map f) = some (l.map g)
  | [] => rfl
  | x :: l => by simp [shrs, h x, shrs_map h l]
theorem cshr_ot {α : Type} {f g : α → List C} {k : Nat} (h : ∀ x, shrl (f x) = some (g x)) (l : List α) : (C.ot k (l.map f)).shr = some (.sl k (l.map g)) := by simp [C.shr, shrs_map h l]
def eo_BoatS (xs : List Boat) : List C := [.ow 6 (xs.map Boat.enc)]
theorem eo_BoatS_shr (xs : List Boat) : shrl (eo_BoatS xs) = some (enc_BoatS xs) := rfl
theorem toBoatSS_o (xs : List (List Boat)) (hl : small_BoatSS xs) : OwnF Try.prog n_laws_toBoatSS [.c (.sl 1 (xs.map enc_BoatS))] (.c (.ot 1 (xs.map eo_BoatS))) := by
  refine own_of h_laws_toBoatSS (by simp) fun hwf => ?_
  simp -dsimp -implicitDefEqProofs [c_laws_toBoatSS]
  intro hlen
  have hl1 := hl.1
  refine ⟨by omega, ?_⟩
  refine loop_rule (ι := Nat) (fun k => k ≤ xs.length) (fun k => stOf [(0, .c (.sl 1 (xs.map enc_BoatS))), (3, .own 7 1 xs.length), (4, .c (.i k))] [(7, .tr 1 0 (partly eo_BoatS [.sl 6 []] xs k))]) (fun k => xs.length - k) 0 (by simp) (by apply le_of <;> simp [AV.refs1, AV.ref0, Obj.refs1, partly_zero, Obj.leO]) ?_
  rintro k hk
  rcases Nat.lt_or_ge k xs.length with hlt | hge
  · obtain ⟨e, he⟩ : ∃ e, xs[k]? = some e := ⟨_, List.getElem?_eq_getElem hlt⟩
    have hs := partly_set (f := eo_BoatS) (z := [.sl 6 []]) he
    have hd : ((partly eo_BoatS [.sl 6 []] xs k)[k]?.getD []).set 0 (.ow 6 (e.map Boat.enc)) = eo_BoatS e := by
      have := partly_get (f := eo_BoatS) (z := [.sl 6 []]) (n := 1) rfl (fun _ => rfl) hlt
      obtain ⟨x, hx⟩ := List.length_eq_one_iff.1 this
      rw [hx]; rfl
    simp -dsimp -implicitDefEqProofs [he, lt_t hlt]
    intro _
    first
      | refine call_own (toBoatS_o e (hl.2 e (List.mem_of_getElem? he))) (by simp ) (by simp [AV.closed, AV.closed1, C.closed]) (by simp [freshO]) ?_
      | refine callE_own (toBoatS_o e (hl.2 e (List.mem_of_getElem? he))) (by simp ) (by simp [AV.closed, AV.closed1, C.closed]) (by simp [freshO]) ?_
    simp -dsimp -implicitDefEqProofs [lt_t hlt, partly_len hk, take_full, setAt, hd, hs]
    exact ⟨hlt, inI_succ hlt hlen, k + 1, hlt, by omega, by apply le_of <;> simp [AV.refs1, AV.ref0, Obj.refs1, Obj.leO]⟩
  · simp -dsimp -implicitDefEqProofs [lt_f hge]
    intro _
    rw [partly_all hge, take_full]
@[simp] def Train.oenc (e : Train) : List C := [.b e.Up, .ot 1 (e.Rows.map eo_BoatS)]
theorem Train.oenc_shr (e : Train) : shrl e.oenc = some e.enc := by simp [Train.oenc, shrl, cshr_ot eo_BoatS_shr]
theorem toTrain_o (e : Train) (hl : Train.small e) : OwnF Try.prog n_laws_toTrain [.agg (e.enc.map .c)] (.agg (e.oenc.map .c)) := by
  refine own_of h_laws_toTrain (by simp) fun hwf => ?_
  simp -dsimp -implicitDefEqProofs [c_laws_toTrain]
  refine call_own (toBoatSS_o e.Rows hl) (by simp) (by simp [AV.closed, AV.closed1, C.closed, eo_BoatS]) (by simp [freshO]) ?_
  simp -dsimp -implicitDefEqProofs [take_full]

end Go.Proofs.Ytfmgadchjiplmaa
