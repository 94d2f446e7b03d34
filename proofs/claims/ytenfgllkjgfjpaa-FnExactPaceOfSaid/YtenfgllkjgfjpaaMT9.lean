/- Contracts of functions of this seat: what each answers, as plain Lean. -/
import Derived.Test.YtenfgllkjgfjpaaMT8
set_option linter.all false
namespace Go.Proofs.Ytenfgllkjgfjpaa
open Go.RowKit

def MoverOk (m : Mover) (w : Way) : Bool := WayOk w && TrainOk m.Train && inRange m.Place 0 w.Long
theorem MoverOk_impl (m : Mover) (w : Way) (h : m.small) : PureF Try.prog n_impl_MoverOk [.agg (m.enc.map .c), .agg (w.enc.map .c)] (.c (.b (MoverOk m w))) := by
  refine pure_of h_impl_MoverOk (by simp) fun hwf => ?_
  simp -dsimp -implicitDefEqProofs [c_impl_MoverOk]
  refine call_lend (WayOk_impl w) (by simp) rfl ?_
  simp -dsimp -implicitDefEqProofs
  refine ⟨fun h1 => ?_, fun h1 => by simp [MoverOk, h1]⟩
  refine call_lend (TrainOk_impl m.Train h) (by simp) rfl ?_
  simp -dsimp -implicitDefEqProofs
  refine ⟨fun h2 => ?_, fun h2 => by simp [MoverOk, h2]⟩
  refine call_lend (inRange_impl m.Place 0 w.Long) (by simp) rfl ?_
  simp -dsimp -implicitDefEqProofs
  simp [MoverOk, h1, h2]
theorem MoverOk_spec (m : Mover) (w : Way) (h : m.small) : PureF Try.prog n_spec_MoverOk [.agg (m.enc.map .c), .agg (w.enc.map .c)] (.c (.b (MoverOk m w))) := by
  refine pure_of h_spec_MoverOk (by simp) fun hwf => ?_
  simp -dsimp -implicitDefEqProofs [c_spec_MoverOk]
  refine call_lend (WayOk_spec w) (by simp) rfl ?_
  simp -dsimp -implicitDefEqProofs
  refine ⟨fun h1 => ?_, fun h1 => by simp [MoverOk, h1]⟩
  refine call_lend (TrainOk_spec m.Train h) (by simp) rfl ?_
  simp -dsimp -implicitDefEqProofs
  refine ⟨fun h2 => ?_, fun h2 => by simp [MoverOk, h2]⟩
  refine call_lend (inRange_spec m.Place 0 w.Long) (by simp) rfl ?_
  simp -dsimp -implicitDefEqProofs
  simp [MoverOk, h1, h2]
theorem FnExactMoverOk_c (m : Mover) (w : Way) : PureF Try.prog n_laws_FnExactMoverOk [.agg (m.enc.map .c), .agg (w.enc.map .c)] (.c (.b true)) := by
  refine pure_of h_laws_FnExactMoverOk (by simp) fun hwf => ?_
  simp -dsimp -implicitDefEqProofs [c_laws_FnExactMoverOk]
  refine call_lend (sz_Mover_c m 1048576 (by omega) (by omega)) (by simp) rfl ?_
  simp -dsimp -implicitDefEqProofs
  intro hsz
  have hl : m.small := sz_small sz_Mover_ok (by omega) (by omega) hsz
  refine ⟨_, _, toMover_c m hl, by simp, .inl rfl, ?_⟩
  simp -dsimp -implicitDefEqProofs
  refine ⟨_, _, toWay_c w, by simp, .inl rfl, ?_⟩
  simp -dsimp -implicitDefEqProofs
  refine ⟨_, _, MoverOk_spec m w hl, by simp, .inl rfl, ?_⟩
  simp -dsimp -implicitDefEqProofs
  refine call_pure (toMover_c m hl) (by simp) rfl ?_
  simp -dsimp -implicitDefEqProofs
  refine ⟨_, _, toWay_c w, by simp, .inl rfl, ?_⟩
  simp -dsimp -implicitDefEqProofs
  refine ⟨_, _, MoverOk_impl m w hl, by simp, .inl rfl, ?_⟩
  simp -dsimp -implicitDefEqProofs
  refine ⟨_, _, toMover_c m hl, by simp, .inl rfl, ?_⟩
  simp -dsimp -implicitDefEqProofs
  refine ⟨_, _, eqMover_c m m, by simp, .inr rfl, ?_⟩
  simp -dsimp -implicitDefEqProofs

def endOf (t : Train) (w : Way) : Int := if t.Up then 0 else w.Long
theorem endOf_c (t : Train) (w : Way) : PureF Try.prog n_impl_endOf [.agg (t.enc.map .c), .agg (w.enc.map .c)] (.c (.i (endOf t w))) := by
  refine pure_of h_impl_endOf (by simp) fun hwf => ?_
  simp -dsimp -implicitDefEqProofs [c_impl_endOf]
  exact ⟨fun h => by simp [endOf, h], fun h => by simp [endOf, h]⟩
def AtEnd (m : Mover) (w : Way) : Bool := MoverOk m w && decide (m.Place = endOf m.Train w)
theorem AtEnd_impl (m : Mover) (w : Way) (h : m.small) : PureF Try.prog n_impl_AtEnd [.agg (m.enc.map .c), .agg (w.enc.map .c)] (.c (.b (AtEnd m w))) := by
  refine pure_of h_impl_AtEnd (by simp) fun hwf => ?_
  simp -dsimp -implicitDefEqProofs [c_impl_AtEnd]
  refine ⟨_, _, MoverOk_impl m w h, by simp, .inl rfl, ?_⟩
  simp -dsimp -implicitDefEqProofs
  refine ⟨fun h1 => ?_, fun h1 => by simp [AtEnd, h1]⟩
  refine ⟨_, _, endOf_c m.Train w, by simp, .inl rfl, ?_⟩
  simp -dsimp -implicitDefEqProofs
  simp [AtEnd, h1]
theorem AtEnd_spec (m : Mover) (w : Way) (h : m.small) : PureF Try.prog n_spec_AtEnd [.agg (m.enc.map .c), .agg (w.enc.map .c)] (.c (.b (AtEnd m w))) := by
  refine pure_of h_spec_AtEnd (by simp) fun hwf => ?_
  simp -dsimp -implicitDefEqProofs [c_spec_AtEnd]
  refine call_lend (MoverOk_spec m w h) (by simp) rfl ?_
  simp -dsimp -implicitDefEqProofs
  refine ⟨fun h1 => by simp [AtEnd, h1], fun h1 => ?_⟩
  exact ⟨fun h2 => by simp [AtEnd, endOf, h1, h2], fun h2 => by simp [AtEnd, endOf, h1, h2]⟩
theorem FnExactAtEnd_c (m : Mover) (w : Way) : PureF Try.prog n_laws_FnExactAtEnd [.agg (m.enc.map .c), .agg (w.enc.map .c)] (.c (.b true)) := by
  refine pure_of h_laws_FnExactAtEnd (by simp) fun hwf => ?_
  simp -dsimp -implicitDefEqProofs [c_laws_FnExactAtEnd]
  refine call_lend (sz_Mover_c m 1048576 (by omega) (by omega)) (by simp) rfl ?_
  simp -dsimp -implicitDefEqProofs
  intro hsz
  have hl : m.small := sz_small sz_Mover_ok (by omega) (by omega) hsz
  refine ⟨_, _, toMover_c m hl, by simp, .inl rfl, ?_⟩
  simp -dsimp -implicitDefEqProofs
  refine ⟨_, _, toWay_c w, by simp, .inl rfl, ?_⟩
  simp -dsimp -implicitDefEqProofs
  refine ⟨_, _, AtEnd_spec m w hl, by simp, .inl rfl, ?_⟩
  simp -dsimp -implicitDefEqProofs
  refine call_pure (toMover_c m hl) (by simp) rfl ?_
  simp -dsimp -implicitDefEqProofs
  refine ⟨_, _, toWay_c w, by simp, .inl rfl, ?_⟩
  simp -dsimp -implicitDefEqProofs
  refine ⟨_, _, AtEnd_impl m w hl, by simp, .inl rfl, ?_⟩
  simp -dsimp -implicitDefEqProofs
  refine ⟨_, _, toMover_c m hl, by simp, .inl rfl, ?_⟩
  simp -dsimp -implicitDefEqProofs
  refine ⟨_, _, eqMover_c m m, by simp, .inr rfl, ?_⟩
  simp -dsimp -implicitDefEqProofs

end Go.Proofs.Ytenfgllkjgfjpaa
