/- Contracts of functions of this seat: what each answers, as plain Lean. -/
import Derived.Test.YtpcopekamgapaaaGreatMT18
import Derived.Test.YtpcopekamgapaaaGreatMTy3
set_option linter.all false
namespace Go.Proofs.YtpcopekamgapaaaGreat
open Go.RowKit

def WeirOk (w : Weir) : Bool := inRange w.Gates 1 8 && inRange w.Open 0 (10 * w.Gates) && inRange w.Step 1 80 && inRange w.Crest 0 100000 && inRange w.Width 1 1000
theorem WeirOk_impl (w : Weir) : PureF Tryz.prog n_impl_WeirOk [.agg (w.enc.map .c)] (.c (.b (WeirOk w))) := by
  refine pure_of h_impl_WeirOk (by simp) fun hwf => ?_
  simp -dsimp -implicitDefEqProofs [c_impl_WeirOk]
  first
    | refine call_lend (inRange_impl w.Gates 1 8) (by simp) rfl ?_
    | refine call_pure (inRange_impl w.Gates 1 8) (by simp) rfl ?_
    | refine ⟨_, _, inRange_impl w.Gates 1 8, by simp, .inr rfl, ?_⟩
    | refine ⟨_, _, inRange_impl w.Gates 1 8, by simp, .inl rfl, ?_⟩
    | refine callE_pure (inRange_impl w.Gates 1 8) (by simp) (.inr rfl) ?_
    | refine callE_pure (inRange_impl w.Gates 1 8) (by simp) (.inl rfl) ?_
  cases h0 : inRange w.Gates 1 8 with
  | false => simp -dsimp -implicitDefEqProofs; simp [WeirOk, h0]
  | true =>
  simp -dsimp -implicitDefEqProofs
  refine ⟨by have := inRange_iff.1 h0; unfold inI; omega, ?_⟩
  first
    | refine call_lend (inRange_impl w.Open 0 (10 * w.Gates)) (by simp) rfl ?_
    | refine call_pure (inRange_impl w.Open 0 (10 * w.Gates)) (by simp) rfl ?_
    | refine ⟨_, _, inRange_impl w.Open 0 (10 * w.Gates), by simp, .inr rfl, ?_⟩
    | refine ⟨_, _, inRange_impl w.Open 0 (10 * w.Gates), by simp, .inl rfl, ?_⟩
    | refine callE_pure (inRange_impl w.Open 0 (10 * w.Gates)) (by simp) (.inr rfl) ?_
    | refine callE_pure (inRange_impl w.Open 0 (10 * w.Gates)) (by simp) (.inl rfl) ?_
  cases h1 : inRange w.Open 0 (10 * w.Gates) with
  | false => simp -dsimp -implicitDefEqProofs; simp [WeirOk, h0, h1]
  | true =>
  simp -dsimp -implicitDefEqProofs
  first
    | refine call_lend (inRange_impl w.Step 1 80) (by simp) rfl ?_
    | refine call_pure (inRange_impl w.Step 1 80) (by simp) rfl ?_
    | refine ⟨_, _, inRange_impl w.Step 1 80, by simp, .inr rfl, ?_⟩
    | refine ⟨_, _, inRange_impl w.Step 1 80, by simp, .inl rfl, ?_⟩
    | refine callE_pure (inRange_impl w.Step 1 80) (by simp) (.inr rfl) ?_
    | refine callE_pure (inRange_impl w.Step 1 80) (by simp) (.inl rfl) ?_
  cases h2 : inRange w.Step 1 80 with
  | false => simp -dsimp -implicitDefEqProofs; simp [WeirOk, h0, h1, h2]
  | true =>
  simp -dsimp -implicitDefEqProofs
  first
    | refine call_lend (inRange_impl w.Crest 0 100000) (by simp) rfl ?_
    | refine call_pure (inRange_impl w.Crest 0 100000) (by simp) rfl ?_
    | refine ⟨_, _, inRange_impl w.Crest 0 100000, by simp, .inr rfl, ?_⟩
    | refine ⟨_, _, inRange_impl w.Crest 0 100000, by simp, .inl rfl, ?_⟩
    | refine callE_pure (inRange_impl w.Crest 0 100000) (by simp) (.inr rfl) ?_
    | refine callE_pure (inRange_impl w.Crest 0 100000) (by simp) (.inl rfl) ?_
  cases h3 : inRange w.Crest 0 100000 with
  | false => simp -dsimp -implicitDefEqProofs; simp [WeirOk, h0, h1, h2, h3]
  | true =>
  simp -dsimp -implicitDefEqProofs
  first
    | refine call_lend (inRange_impl w.Width 1 1000) (by simp) rfl ?_
    | refine call_pure (inRange_impl w.Width 1 1000) (by simp) rfl ?_
    | refine ⟨_, _, inRange_impl w.Width 1 1000, by simp, .inr rfl, ?_⟩
    | refine ⟨_, _, inRange_impl w.Width 1 1000, by simp, .inl rfl, ?_⟩
    | refine callE_pure (inRange_impl w.Width 1 1000) (by simp) (.inr rfl) ?_
    | refine callE_pure (inRange_impl w.Width 1 1000) (by simp) (.inl rfl) ?_
  cases h4 : inRange w.Width 1 1000 with
  | false => simp -dsimp -implicitDefEqProofs; simp [WeirOk, h0, h1, h2, h3, h4]
  | true =>
    simp -dsimp -implicitDefEqProofs; simp [WeirOk, h0, h1, h2, h3, h4]
theorem WeirOk_spec (w : Weir) : PureF Tryz.prog n_spec_WeirOk [.agg (w.enc.map .c)] (.c (.b (WeirOk w))) := by
  refine pure_of h_spec_WeirOk (by simp) fun hwf => ?_
  simp -dsimp -implicitDefEqProofs [c_spec_WeirOk]
  first
    | refine call_lend (inRange_spec w.Gates 1 8) (by simp) rfl ?_
    | refine call_pure (inRange_spec w.Gates 1 8) (by simp) rfl ?_
    | refine ⟨_, _, inRange_spec w.Gates 1 8, by simp, .inr rfl, ?_⟩
    | refine ⟨_, _, inRange_spec w.Gates 1 8, by simp, .inl rfl, ?_⟩
    | refine callE_pure (inRange_spec w.Gates 1 8) (by simp) (.inr rfl) ?_
    | refine callE_pure (inRange_spec w.Gates 1 8) (by simp) (.inl rfl) ?_
  cases h0 : inRange w.Gates 1 8 with
  | false => simp -dsimp -implicitDefEqProofs; simp [WeirOk, h0]
  | true =>
  simp -dsimp -implicitDefEqProofs
  refine ⟨by have := inRange_iff.1 h0; unfold inI; omega, ?_⟩
  first
    | refine call_lend (inRange_spec w.Open 0 (10 * w.Gates)) (by simp) rfl ?_
    | refine call_pure (inRange_spec w.Open 0 (10 * w.Gates)) (by simp) rfl ?_
    | refine ⟨_, _, inRange_spec w.Open 0 (10 * w.Gates), by simp, .inr rfl, ?_⟩
    | refine ⟨_, _, inRange_spec w.Open 0 (10 * w.Gates), by simp, .inl rfl, ?_⟩
    | refine callE_pure (inRange_spec w.Open 0 (10 * w.Gates)) (by simp) (.inr rfl) ?_
    | refine callE_pure (inRange_spec w.Open 0 (10 * w.Gates)) (by simp) (.inl rfl) ?_
  cases h1 : inRange w.Open 0 (10 * w.Gates) with
  | false => simp -dsimp -implicitDefEqProofs; simp [WeirOk, h0, h1]
  | true =>
  simp -dsimp -implicitDefEqProofs
  first
    | refine call_lend (inRange_spec w.Step 1 80) (by simp) rfl ?_
    | refine call_pure (inRange_spec w.Step 1 80) (by simp) rfl ?_
    | refine ⟨_, _, inRange_spec w.Step 1 80, by simp, .inr rfl, ?_⟩
    | refine ⟨_, _, inRange_spec w.Step 1 80, by simp, .inl rfl, ?_⟩
    | refine callE_pure (inRange_spec w.Step 1 80) (by simp) (.inr rfl) ?_
    | refine callE_pure (inRange_spec w.Step 1 80) (by simp) (.inl rfl) ?_
  cases h2 : inRange w.Step 1 80 with
  | false => simp -dsimp -implicitDefEqProofs; simp [WeirOk, h0, h1, h2]
  | true =>
  simp -dsimp -implicitDefEqProofs
  first
    | refine call_lend (inRange_spec w.Crest 0 100000) (by simp) rfl ?_
    | refine call_pure (inRange_spec w.Crest 0 100000) (by simp) rfl ?_
    | refine ⟨_, _, inRange_spec w.Crest 0 100000, by simp, .inr rfl, ?_⟩
    | refine ⟨_, _, inRange_spec w.Crest 0 100000, by simp, .inl rfl, ?_⟩
    | refine callE_pure (inRange_spec w.Crest 0 100000) (by simp) (.inr rfl) ?_
    | refine callE_pure (inRange_spec w.Crest 0 100000) (by simp) (.inl rfl) ?_
  cases h3 : inRange w.Crest 0 100000 with
  | false => simp -dsimp -implicitDefEqProofs; simp [WeirOk, h0, h1, h2, h3]
  | true =>
  simp -dsimp -implicitDefEqProofs
  first
    | refine call_lend (inRange_spec w.Width 1 1000) (by simp) rfl ?_
    | refine call_pure (inRange_spec w.Width 1 1000) (by simp) rfl ?_
    | refine ⟨_, _, inRange_spec w.Width 1 1000, by simp, .inr rfl, ?_⟩
    | refine ⟨_, _, inRange_spec w.Width 1 1000, by simp, .inl rfl, ?_⟩
    | refine callE_pure (inRange_spec w.Width 1 1000) (by simp) (.inr rfl) ?_
    | refine callE_pure (inRange_spec w.Width 1 1000) (by simp) (.inl rfl) ?_
  cases h4 : inRange w.Width 1 1000 with
  | false => simp -dsimp -implicitDefEqProofs; simp [WeirOk, h0, h1, h2, h3, h4]
  | true =>
    simp -dsimp -implicitDefEqProofs; simp [WeirOk, h0, h1, h2, h3, h4]
def RuleOk (r : Rule) : Bool := inRange r.Low 0 100000 && inRange r.High 0 100000 && inRange r.Flood 0 100000 && decide (r.Low < r.High) && decide (r.High ≤ r.Flood)
theorem RuleOk_impl (r : Rule) : PureF Tryz.prog n_impl_RuleOk [.agg (r.enc.map .c)] (.c (.b (RuleOk r))) := by
  refine pure_of h_impl_RuleOk (by simp) fun hwf => ?_
  simp -dsimp -implicitDefEqProofs [c_impl_RuleOk]
  first
    | refine call_lend (inRange_impl r.Low 0 100000) (by simp) rfl ?_
    | refine call_pure (inRange_impl r.Low 0 100000) (by simp) rfl ?_
    | refine ⟨_, _, inRange_impl r.Low 0 100000, by simp, .inr rfl, ?_⟩
    | refine ⟨_, _, inRange_impl r.Low 0 100000, by simp, .inl rfl, ?_⟩
    | refine callE_pure (inRange_impl r.Low 0 100000) (by simp) (.inr rfl) ?_
    | refine callE_pure (inRange_impl r.Low 0 100000) (by simp) (.inl rfl) ?_
  cases h0 : inRange r.Low 0 100000 with
  | false => simp -dsimp -implicitDefEqProofs; simp [RuleOk, h0]
  | true =>
  simp -dsimp -implicitDefEqProofs
  first
    | refine call_lend (inRange_impl r.High 0 100000) (by simp) rfl ?_
    | refine call_pure (inRange_impl r.High 0 100000) (by simp) rfl ?_
    | refine ⟨_, _, inRange_impl r.High 0 100000, by simp, .inr rfl, ?_⟩
    | refine ⟨_, _, inRange_impl r.High 0 100000, by simp, .inl rfl, ?_⟩
    | refine callE_pure (inRange_impl r.High 0 100000) (by simp) (.inr rfl) ?_
    | refine callE_pure (inRange_impl r.High 0 100000) (by simp) (.inl rfl) ?_
  cases h1 : inRange r.High 0 100000 with
  | false => simp -dsimp -implicitDefEqProofs; simp [RuleOk, h0, h1]
  | true =>
  simp -dsimp -implicitDefEqProofs
  first
    | refine call_lend (inRange_impl r.Flood 0 100000) (by simp) rfl ?_
    | refine call_pure (inRange_impl r.Flood 0 100000) (by simp) rfl ?_
    | refine ⟨_, _, inRange_impl r.Flood 0 100000, by simp, .inr rfl, ?_⟩
    | refine ⟨_, _, inRange_impl r.Flood 0 100000, by simp, .inl rfl, ?_⟩
    | refine callE_pure (inRange_impl r.Flood 0 100000) (by simp) (.inr rfl) ?_
    | refine callE_pure (inRange_impl r.Flood 0 100000) (by simp) (.inl rfl) ?_
  cases h2 : inRange r.Flood 0 100000 with
  | false => simp -dsimp -implicitDefEqProofs; simp [RuleOk, h0, h1, h2]
  | true =>
  simp -dsimp -implicitDefEqProofs
  simp [RuleOk, h0, h1, h2]
  exact ⟨fun h _ => h, fun a b => by omega⟩
theorem RuleOk_spec (r : Rule) : PureF Tryz.prog n_spec_RuleOk [.agg (r.enc.map .c)] (.c (.b (RuleOk r))) := by
  refine pure_of h_spec_RuleOk (by simp) fun hwf => ?_
  simp -dsimp -implicitDefEqProofs [c_spec_RuleOk]
  first
    | refine call_lend (l03Level_c r.Low) (by simp) rfl ?_
    | refine call_pure (l03Level_c r.Low) (by simp) rfl ?_
    | refine ⟨_, _, l03Level_c r.Low, by simp, .inr rfl, ?_⟩
    | refine ⟨_, _, l03Level_c r.Low, by simp, .inl rfl, ?_⟩
    | refine callE_pure (l03Level_c r.Low) (by simp) (.inr rfl) ?_
    | refine callE_pure (l03Level_c r.Low) (by simp) (.inl rfl) ?_
  cases h0 : inRange r.Low 0 100000 with
  | false => simp -dsimp -implicitDefEqProofs; simp [RuleOk, h0]
  | true =>
  simp -dsimp -implicitDefEqProofs
  first
    | refine call_lend (l03Level_c r.High) (by simp) rfl ?_
    | refine call_pure (l03Level_c r.High) (by simp) rfl ?_
    | refine ⟨_, _, l03Level_c r.High, by simp, .inr rfl, ?_⟩
    | refine ⟨_, _, l03Level_c r.High, by simp, .inl rfl, ?_⟩
    | refine callE_pure (l03Level_c r.High) (by simp) (.inr rfl) ?_
    | refine callE_pure (l03Level_c r.High) (by simp) (.inl rfl) ?_
  cases h1 : inRange r.High 0 100000 with
  | false => simp -dsimp -implicitDefEqProofs; simp [RuleOk, h0, h1]
  | true =>
  simp -dsimp -implicitDefEqProofs
  first
    | refine call_lend (l03Level_c r.Flood) (by simp) rfl ?_
    | refine call_pure (l03Level_c r.Flood) (by simp) rfl ?_
    | refine ⟨_, _, l03Level_c r.Flood, by simp, .inr rfl, ?_⟩
    | refine ⟨_, _, l03Level_c r.Flood, by simp, .inl rfl, ?_⟩
    | refine callE_pure (l03Level_c r.Flood) (by simp) (.inr rfl) ?_
    | refine callE_pure (l03Level_c r.Flood) (by simp) (.inl rfl) ?_
  cases h2 : inRange r.Flood 0 100000 with
  | false => simp -dsimp -implicitDefEqProofs; simp [RuleOk, h0, h1, h2]
  | true =>
  simp -dsimp -implicitDefEqProofs
  simp [RuleOk, h0, h1, h2]
  exact ⟨fun h _ => h, fun a b => by omega⟩
def TurnOk (t : Turn) : Bool := inRange t.Count 0 1000000
theorem TurnOk_impl (t : Turn) : PureF Tryz.prog n_impl_TurnOk [.agg (t.enc.map .c)] (.c (.b (TurnOk t))) := by
  refine pure_of h_impl_TurnOk (by simp) fun hwf => ?_
  simp -dsimp -implicitDefEqProofs [c_impl_TurnOk]
  first
    | refine call_lend (inRange_impl t.Count 0 1000000) (by simp) rfl ?_
    | refine call_pure (inRange_impl t.Count 0 1000000) (by simp) rfl ?_
    | refine ⟨_, _, inRange_impl t.Count 0 1000000, by simp, .inr rfl, ?_⟩
    | refine ⟨_, _, inRange_impl t.Count 0 1000000, by simp, .inl rfl, ?_⟩
    | refine callE_pure (inRange_impl t.Count 0 1000000) (by simp) (.inr rfl) ?_
    | refine callE_pure (inRange_impl t.Count 0 1000000) (by simp) (.inl rfl) ?_
  simp -dsimp -implicitDefEqProofs
  try rfl
theorem TurnOk_spec (t : Turn) : PureF Tryz.prog n_spec_TurnOk [.agg (t.enc.map .c)] (.c (.b (TurnOk t))) := by
  refine pure_of h_spec_TurnOk (by simp) fun hwf => ?_
  simp -dsimp -implicitDefEqProofs [c_spec_TurnOk]
  first
    | refine call_lend (inRange_spec t.Count 0 1000000) (by simp) rfl ?_
    | refine call_pure (inRange_spec t.Count 0 1000000) (by simp) rfl ?_
    | refine ⟨_, _, inRange_spec t.Count 0 1000000, by simp, .inr rfl, ?_⟩
    | refine ⟨_, _, inRange_spec t.Count 0 1000000, by simp, .inl rfl, ?_⟩
    | refine callE_pure (inRange_spec t.Count 0 1000000) (by simp) (.inr rfl) ?_
    | refine callE_pure (inRange_spec t.Count 0 1000000) (by simp) (.inl rfl) ?_
  simp -dsimp -implicitDefEqProofs
  try rfl
def CallOk (c : CallT) : Bool := TrainOk c.Train && inRange c.Since 0 1000000 && inRange c.Booked (-1) 1000000
theorem CallOk_impl (c : CallT) (h : c.small) : PureF Tryz.prog n_impl_CallOk [.agg (c.enc.map .c)] (.c (.b (CallOk c))) := by
  refine pure_of h_impl_CallOk (by simp) fun hwf => ?_
  simp -dsimp -implicitDefEqProofs [c_impl_CallOk]
  first
    | refine call_lend (TrainOk_impl c.Train h) (by simp) rfl ?_
    | refine call_pure (TrainOk_impl c.Train h) (by simp) rfl ?_
    | refine ⟨_, _, TrainOk_impl c.Train h, by simp, .inr rfl, ?_⟩
    | refine ⟨_, _, TrainOk_impl c.Train h, by simp, .inl rfl, ?_⟩
    | refine callE_pure (TrainOk_impl c.Train h) (by simp) (.inr rfl) ?_
    | refine callE_pure (TrainOk_impl c.Train h) (by simp) (.inl rfl) ?_
  cases h0 : TrainOk c.Train with
  | false => simp -dsimp -implicitDefEqProofs; simp [CallOk, h0]
  | true =>
  simp -dsimp -implicitDefEqProofs
  first
    | refine call_lend (inRange_impl c.Since 0 1000000) (by simp) rfl ?_
    | refine call_pure (inRange_impl c.Since 0 1000000) (by simp) rfl ?_
    | refine ⟨_, _, inRange_impl c.Since 0 1000000, by simp, .inr rfl, ?_⟩
    | refine ⟨_, _, inRange_impl c.Since 0 1000000, by simp, .inl rfl, ?_⟩
    | refine callE_pure (inRange_impl c.Since 0 1000000) (by simp) (.inr rfl) ?_
    | refine callE_pure (inRange_impl c.Since 0 1000000) (by simp) (.inl rfl) ?_
  cases h1 : inRange c.Since 0 1000000 with
  | false => simp -dsimp -implicitDefEqProofs; simp [CallOk, h0, h1]
  | true =>
  simp -dsimp -implicitDefEqProofs
  first
    | refine call_lend (inRange_impl c.Booked (-1) 1000000) (by simp) rfl ?_
    | refine call_pure (inRange_impl c.Booked (-1) 1000000) (by simp) rfl ?_
    | refine ⟨_, _, inRange_impl c.Booked (-1) 1000000, by simp, .inr rfl, ?_⟩
    | refine ⟨_, _, inRange_impl c.Booked (-1) 1000000, by simp, .inl rfl, ?_⟩
    | refine callE_pure (inRange_impl c.Booked (-1) 1000000) (by simp) (.inr rfl) ?_
    | refine callE_pure (inRange_impl c.Booked (-1) 1000000) (by simp) (.inl rfl) ?_
  cases h2 : inRange c.Booked (-1) 1000000 with
  | false => simp -dsimp -implicitDefEqProofs; simp [CallOk, h0, h1, h2]
  | true =>
    simp -dsimp -implicitDefEqProofs; simp [CallOk, h0, h1, h2]
theorem CallOk_spec (c : CallT) (h : c.small) : PureF Tryz.prog n_spec_CallOk [.agg (c.enc.map .c)] (.c (.b (CallOk c))) := by
  refine pure_of h_spec_CallOk (by simp) fun hwf => ?_
  simp -dsimp -implicitDefEqProofs [c_spec_CallOk]
  first
    | refine call_lend (TrainOk_spec c.Train h) (by simp) rfl ?_
    | refine call_pure (TrainOk_spec c.Train h) (by simp) rfl ?_
    | refine ⟨_, _, TrainOk_spec c.Train h, by simp, .inr rfl, ?_⟩
    | refine ⟨_, _, TrainOk_spec c.Train h, by simp, .inl rfl, ?_⟩
    | refine callE_pure (TrainOk_spec c.Train h) (by simp) (.inr rfl) ?_
    | refine callE_pure (TrainOk_spec c.Train h) (by simp) (.inl rfl) ?_
  cases h0 : TrainOk c.Train with
  | false => simp -dsimp -implicitDefEqProofs; simp [CallOk, h0]
  | true =>
  simp -dsimp -implicitDefEqProofs
  first
    | refine call_lend (inRange_spec c.Since 0 1000000) (by simp) rfl ?_
    | refine call_pure (inRange_spec c.Since 0 1000000) (by simp) rfl ?_
    | refine ⟨_, _, inRange_spec c.Since 0 1000000, by simp, .inr rfl, ?_⟩
    | refine ⟨_, _, inRange_spec c.Since 0 1000000, by simp, .inl rfl, ?_⟩
    | refine callE_pure (inRange_spec c.Since 0 1000000) (by simp) (.inr rfl) ?_
    | refine callE_pure (inRange_spec c.Since 0 1000000) (by simp) (.inl rfl) ?_
  cases h1 : inRange c.Since 0 1000000 with
  | false => simp -dsimp -implicitDefEqProofs; simp [CallOk, h0, h1]
  | true =>
  simp -dsimp -implicitDefEqProofs
  first
    | refine call_lend (inRange_spec c.Booked (-1) 1000000) (by simp) rfl ?_
    | refine call_pure (inRange_spec c.Booked (-1) 1000000) (by simp) rfl ?_
    | refine ⟨_, _, inRange_spec c.Booked (-1) 1000000, by simp, .inr rfl, ?_⟩
    | refine ⟨_, _, inRange_spec c.Booked (-1) 1000000, by simp, .inl rfl, ?_⟩
    | refine callE_pure (inRange_spec c.Booked (-1) 1000000) (by simp) (.inr rfl) ?_
    | refine callE_pure (inRange_spec c.Booked (-1) 1000000) (by simp) (.inl rfl) ?_
  cases h2 : inRange c.Booked (-1) 1000000 with
  | false => simp -dsimp -implicitDefEqProofs; simp [CallOk, h0, h1, h2]
  | true =>
    simp -dsimp -implicitDefEqProofs; simp [CallOk, h0, h1, h2]
def pauseOk (b : Int) (p : Pause) : Bool := !decide (p.From < b) && !decide (p.Until ≤ p.From) && !decide (1000000 < p.Until)
def pausesFrom : Int → List Pause → Bool
  | _, [] => true
  | b, p :: l => pauseOk b p && pausesFrom p.Until l
def PausesOk (l : List Pause) : Bool := decide (l.length ≤ 8) && pausesFrom 0 l
theorem pauses_step {l : List Pause} {k : Nat} {p : Pause} {b : Int} (h : l[k]? = some p) : pausesFrom b (l.drop k) = (pauseOk b p && pausesFrom p.Until (l.drop (k + 1))) := by
  have hlt := (List.getElem?_eq_some_iff.1 h).1
  rw [List.drop_eq_getElem_cons hlt, (List.getElem?_eq_some_iff.1 h).2]; rfl
theorem PausesOk_impl (l : List Pause) : PureF Tryz.prog n_impl_PausesOk [.c (.sl 2 (l.map Pause.enc))] (.c (.b (PausesOk l))) := by
  refine pure_of h_impl_PausesOk (by simp) fun hwf => ?_
  simp -dsimp -implicitDefEqProofs [c_impl_PausesOk]
  intro hlen
  first
    | refine ⟨fun h8 => (by simp [PausesOk]; omega), fun h8 => ?_⟩
    | refine ⟨fun h8 => ?_, fun h8 => (by simp [PausesOk]; omega)⟩
  refine fun _ => loop_rule (ι := Nat × Int) (fun q => q.1 ≤ l.length ∧ pausesFrom q.2 (l.drop q.1) = pausesFrom 0 l) (fun q => stOf [(3, .c (.i q.2)), (9, .c (.sl 2 (l.map Pause.enc))), (10, .c (.i l.length)), (11, .c (.i q.1))] []) (fun q => l.length - q.1) (0, 0) (by simp) (by apply le_of <;> simp [AV.refs1, AV.ref0, Obj.refs1]) ?_
  rintro ⟨k, b⟩ ⟨hk, hf⟩
  simp only at hk hf
  rcases Nat.lt_or_ge k l.length with hlt | hge
  · obtain ⟨p, hp⟩ : ∃ p, l[k]? = some p := ⟨_, List.getElem?_eq_getElem hlt⟩
    rw [pauses_step hp] at hf
    have bad : pauseOk b p = false → PausesOk l = false := fun e => by rw [e, Bool.false_and] at hf; simp [PausesOk, ← hf]
    simp -dsimp -implicitDefEqProofs [hp, lt_t hlt]
    first
      | refine ⟨fun h1 => (bad (by simp [pauseOk]; omega)), fun h1 => ?_⟩
      | refine ⟨fun h1 => ?_, fun h1 => (bad (by simp [pauseOk]; omega))⟩
    first
      | refine ⟨fun h2 => (bad (by simp [pauseOk]; omega)), fun h2 => ?_⟩
      | refine ⟨fun h2 => ?_, fun h2 => (bad (by simp [pauseOk]; omega))⟩
    first
      | refine ⟨fun h3 => (bad (by simp [pauseOk]; omega)), fun h3 => ?_⟩
      | refine ⟨fun h3 => ?_, fun h3 => (bad (by simp [pauseOk]; omega))⟩
    have hok : pauseOk b p = true := by simp [pauseOk]; omega
    rw [hok, Bool.true_and] at hf
    exact ⟨inI_succ hlt hlen, k + 1, p.Until, ⟨hlt, hf⟩, by omega, by apply le_of <;> simp [AV.refs1, AV.ref0, Obj.refs1]⟩
  · simp -dsimp -implicitDefEqProofs [lt_f hge]
    rw [List.drop_of_length_le hge] at hf
    have h8' : l.length ≤ 8 := by omega
    simp [PausesOk, h8', ← hf, pausesFrom]
theorem PausesOk_spec (l : List Pause) : PureF Tryz.prog n_spec_PausesOk [.c (.sl 2 (l.map Pause.enc))] (.c (.b (PausesOk l))) := by
  refine pure_of h_spec_PausesOk (by simp) fun hwf => ?_
  simp -dsimp -implicitDefEqProofs [c_spec_PausesOk]
  refine loop_rule (ι := Nat × Int) (fun q => q.1 ≤ l.length ∧ pausesFrom q.2 (l.drop q.1) = pausesFrom 0 l) (fun q => stOf [(0, .c (.sl 2 (l.map Pause.enc))), (3, .c (.i q.2)), (4, .c (.i q.1))] []) (fun q => l.length - q.1) (0, 0) (by simp) (by apply le_of <;> simp [AV.refs1, AV.ref0, Obj.refs1]) ?_
  rintro ⟨k, b⟩ ⟨hk, hf⟩
  simp only at hk hf
  rcases Nat.lt_or_ge k l.length with hlt | hge
  · obtain ⟨p, hp⟩ : ∃ p, l[k]? = some p := ⟨_, List.getElem?_eq_getElem hlt⟩
    rw [pauses_step hp] at hf
    have bad : pauseOk b p = false → PausesOk l = false := fun e => by rw [e, Bool.false_and] at hf; simp [PausesOk, ← hf]
    simp -dsimp -implicitDefEqProofs [hp, lt_t hlt]
    intro hlen
    first
      | refine ⟨fun h1 => (bad (by simp [pauseOk]; omega)), fun h1 => ?_⟩
      | refine ⟨fun h1 => ?_, fun h1 => (bad (by simp [pauseOk]; omega))⟩
    first
      | refine ⟨fun h2 => (bad (by simp [pauseOk]; omega)), fun h2 => ?_⟩
      | refine ⟨fun h2 => ?_, fun h2 => (bad (by simp [pauseOk]; omega))⟩
    first
      | refine ⟨fun h3 => (bad (by simp [pauseOk]; omega)), fun h3 => ?_⟩
      | refine ⟨fun h3 => ?_, fun h3 => (bad (by simp [pauseOk]; omega))⟩
    have hok : pauseOk b p = true := by simp [pauseOk]; omega
    rw [hok, Bool.true_and] at hf
    exact ⟨inI_succ hlt hlen, k + 1, p.Until, ⟨hlt, hf⟩, by omega, by apply le_of <;> simp [AV.refs1, AV.ref0, Obj.refs1]⟩
  · simp -dsimp -implicitDefEqProofs [lt_f hge]
    rw [List.drop_of_length_le hge] at hf
    simp [PausesOk, ← hf, pausesFrom]
    try omega
def idsUpto (l : List Train) (k : Nat) : List Int := (l.take k).flatMap IdsOf
def seenAt (l : List Train) (k : Nat) (t : Train) (j : Nat) : List Int := idsUpto l k ++ (IdsOf t).take j
def Distinct (l : List Train) : Bool := decide (l.length ≤ 8) && l.all TrainOk && decide ((l.flatMap IdsOf).Nodup)
theorem idsUpto_zero {l : List Train} : idsUpto l 0 = [] := rfl
theorem idsUpto_succ {l : List Train} {k : Nat} {t : Train} (h : l[k]? = some t) : idsUpto l (k + 1) = idsUpto l k ++ IdsOf t := by
  unfold idsUpto; rw [List.take_succ, h, List.flatMap_append]; simp
theorem idsUpto_all {l : List Train} {k : Nat} (h : l.length ≤ k) : idsUpto l k = l.flatMap IdsOf := by
  unfold idsUpto; rw [List.take_of_length_le h]
theorem idsUpto_split {l : List Train} {k : Nat} {t : Train} (h : l[k]? = some t) : ∃ m, l.flatMap IdsOf = idsUpto l k ++ IdsOf t ++ m := by
  refine ⟨(l.drop (k + 1)).flatMap IdsOf, ?_⟩
  rw [← idsUpto_succ h]
  unfold idsUpto
  rw [← List.flatMap_append, List.take_append_drop]
theorem seenAt_zero {l : List Train} {k : Nat} {t : Train} : seenAt l k t 0 = idsUpto l k := by simp [seenAt]
theorem seenAt_succ {l : List Train} {k j : Nat} {t : Train} {x : Int} (h : (IdsOf t)[j]? = some x) : seenAt l k t (j + 1) = seenAt l k t j ++ [x] := by
  unfold seenAt; rw [List.take_succ, h]; simp
theorem seenAt_all {l : List Train} {k j : Nat} {t : Train} (ht : l[k]? = some t) (h : (IdsOf t).length ≤ j) : seenAt l k t j = idsUpto l (k + 1) := by
  unfold seenAt; rw [List.take_of_length_le h, idsUpto_succ ht]
theorem idsUpto_len {l : List Train} (k : Nat) (h : ∀ t ∈ l.take k, TrainOk t = true) : (idsUpto l k).length ≤ 6 * k := by
  have key : ∀ (m : List Train), (∀ t ∈ m, TrainOk t = true) → (m.flatMap IdsOf).length ≤ 6 * m.length := by
    intro m
    induction m with
    | nil => simp
    | cons t m ih =>
      intro hm
      have h1 := Ids_len (hm t (by simp))
      have h2 := ih fun x hx => hm x (by simp [hx])
      simp only [List.flatMap_cons, List.length_append, List.length_cons]; omega
  have := key (l.take k) h
  have h2 : (l.take k).length ≤ k := by rw [List.length_take]; omega
  unfold idsUpto; omega
theorem twice {l : List Train} {k j : Nat} {t : Train} {x : Int} (ht : l[k]? = some t) (hx : (IdsOf t)[j]? = some x) (hm : x ∈ seenAt l k t j) : Distinct l = false := by
  have : ¬ (l.flatMap IdsOf).Nodup := by
    intro hn
    obtain ⟨m, e⟩ := idsUpto_split ht
    have hlt := (List.getElem?_eq_some_iff.1 hx).1
    have e2 : IdsOf t = (IdsOf t).take j ++ x :: (IdsOf t).drop (j + 1) := by
      conv => lhs; rw [← List.take_append_drop j (IdsOf t)]
      rw [List.drop_eq_getElem_cons hlt, (List.getElem?_eq_some_iff.1 hx).2]
    have e3 : l.flatMap IdsOf = seenAt l k t j ++ x :: ((IdsOf t).drop (j + 1) ++ m) := by
      rw [e]; unfold seenAt; conv => lhs; rw [e2]
      simp
    rw [e3] at hn
    exact (List.nodup_append.1 hn).2.2 x hm x (by simp) rfl
  simp [Distinct, this]
theorem bad_train {l : List Train} {k : Nat} {t : Train} (ht : l[k]? = some t) (h : TrainOk t = false) : Distinct l = false := by
  have : l.all TrainOk = false := all_false (p := TrainOk) ht h
  simp only [Distinct, this, Bool.and_false, Bool.false_and]
theorem distinctTrains_c (l : List Train) (hs : small_TrainS l) : PureF Tryz.prog n_impl_distinctTrains [.c (.sl 2 (l.map Train.enc))] (.c (.b (Distinct l))) := by
  refine pure_of h_impl_distinctTrains (by simp) fun hwf => ?_
  simp -dsimp -implicitDefEqProofs [c_impl_distinctTrains]
  intro hlen
  first
    | refine ⟨fun h8 => (by simp [Distinct]; omega), fun h8 => ?_⟩
    | refine ⟨fun h8 => ?_, fun h8 => (by simp [Distinct]; omega)⟩
  intro _
  refine virt_rule (k0 := 1) 3 1 (by simp) (by simp) (by decide) ?_
  refine loop_rule (ι := Nat) (fun k => k ≤ l.length ∧ (∀ t ∈ l.take k, TrainOk t = true) ∧ (idsUpto l k).Nodup) (fun k => stOf [(3, .own 3 1 (idsUpto l k).length), (11, .c (.sl 2 (l.map Train.enc))), (12, .c (.i l.length)), (13, .c (.i k))] [(3, .row 1 ((idsUpto l k).map ienc))]) (fun k => l.length - k) 0 (by simp [idsUpto_zero]) (by apply le_of <;> simp [AV.refs1, AV.ref0, Obj.refs1, idsUpto_zero]) ?_
  rintro k ⟨hk, hall, hnd⟩
  rcases Nat.lt_or_ge k l.length with hlt | hge
  · obtain ⟨t, ht⟩ : ∃ t, l[k]? = some t := ⟨_, List.getElem?_eq_getElem hlt⟩
    have hts := hs.2 t (List.mem_of_getElem? ht)
    simp -dsimp -implicitDefEqProofs [ht, lt_t hlt]
    first
      | refine call_lend (TrainOk_impl t hts) (by simp) rfl ?_
      | refine call_pure (TrainOk_impl t hts) (by simp) rfl ?_
      | refine ⟨_, _, TrainOk_impl t hts, by simp, .inr rfl, ?_⟩
      | refine ⟨_, _, TrainOk_impl t hts, by simp, .inl rfl, ?_⟩
      | refine callE_pure (TrainOk_impl t hts) (by simp) (.inr rfl) ?_
      | refine callE_pure (TrainOk_impl t hts) (by simp) (.inl rfl) ?_
    cases h1 : TrainOk t with
    | false => simp -dsimp -implicitDefEqProofs; exact bad_train ht h1
    | true =>
      have hall' := all_take_succ (p := TrainOk) ht hall h1
      have hil := Ids_len h1
      have hul := idsUpto_len k hall
      simp -dsimp -implicitDefEqProofs
      first
        | refine call_lend (IdsOf_implP t hts) (by simp) rfl ?_
        | refine call_pure (IdsOf_implP t hts) (by simp) rfl ?_
        | refine ⟨_, _, IdsOf_implP t hts, by simp, .inr rfl, ?_⟩
        | refine ⟨_, _, IdsOf_implP t hts, by simp, .inl rfl, ?_⟩
        | refine callE_pure (IdsOf_implP t hts) (by simp) (.inr rfl) ?_
        | refine callE_pure (IdsOf_implP t hts) (by simp) (.inl rfl) ?_
      simp -dsimp -implicitDefEqProofs
      intro _
      refine loop_rule (ι := Nat) (fun j => j ≤ (IdsOf t).length ∧ (seenAt l k t j).Nodup) (fun j => stOf [(3, .own 3 1 (seenAt l k t j).length), (11, .c (.sl 2 (l.map Train.enc))), (12, .c (.i l.length)), (13, .c (.i k)), (21, .c (.sl 1 ((IdsOf t).map ienc))), (22, .c (.i (IdsOf t).length)), (23, .c (.i j))] [(3, .row 1 ((seenAt l k t j).map ienc))]) (fun j => (IdsOf t).length - j) 0 ⟨by simp, by rw [seenAt_zero]; exact hnd⟩ (by apply le_of <;> simp [AV.refs1, AV.ref0, Obj.refs1, seenAt_zero]) ?_
      rintro j ⟨hj, hnj⟩
      have hsl : (seenAt l k t j).length ≤ 60 := by unfold seenAt; rw [List.length_append, List.length_take]; omega
      rcases Nat.lt_or_ge j (IdsOf t).length with hlt2 | hge2
      · obtain ⟨x, hx⟩ : ∃ x, (IdsOf t)[j]? = some x := ⟨_, List.getElem?_eq_getElem hlt2⟩
        simp -dsimp -implicitDefEqProofs [hx, lt_t hlt2]
        first
          | refine call_lend (Contains_c (seenAt l k t j) x) (by simp [take_all0]) rfl ?_
          | refine call_pure (Contains_c (seenAt l k t j) x) (by simp [take_all0]) rfl ?_
          | refine ⟨_, _, Contains_c (seenAt l k t j) x, by simp [take_all0], .inr rfl, ?_⟩
          | refine ⟨_, _, Contains_c (seenAt l k t j) x, by simp [take_all0], .inl rfl, ?_⟩
          | refine callE_pure (Contains_c (seenAt l k t j) x) (by simp [take_all0]) (.inr rfl) ?_
          | refine callE_pure (Contains_c (seenAt l k t j) x) (by simp [take_all0]) (.inl rfl) ?_
        simp -dsimp -implicitDefEqProofs
        first
          | refine ⟨fun h2 => (twice ht hx h2), fun h2 => ?_⟩
          | refine ⟨fun h2 => ?_, fun h2 => (twice ht hx h2)⟩
        have hn2 : (seenAt l k t (j + 1)).Nodup := by
          rw [seenAt_succ hx]
          exact List.nodup_append.2 ⟨hnj, by simp, fun a ha b hb e => by simp at hb; subst hb; subst e; exact h2 ha⟩
        refine ⟨by omega, by unfold inI; omega, j + 1, ⟨hlt2, hn2⟩, by omega, ?_⟩
        apply le_of <;> simp [AV.refs1, AV.ref0, Obj.refs1, seenAt_succ hx]
      · simp -dsimp -implicitDefEqProofs [lt_f hge2]
        rw [seenAt_all ht hge2] at hnj
        refine ⟨by unfold inI; omega, k + 1, ⟨hlt, hall', hnj⟩, by omega, ?_⟩
        apply le_of <;> simp [AV.refs1, AV.ref0, Obj.refs1, seenAt_all ht hge2]
  · simp -dsimp -implicitDefEqProofs [lt_f hge]
    rw [idsUpto_all hge] at hnd
    have h1 := all_of_take (p := TrainOk) hge hall
    have h8' : l.length ≤ 8 := by omega
    simp [Distinct, h1, hnd, h8']
theorem l05Different_c (l : List Train) (hs : small_TrainS l) (h8 : l.length ≤ 8) (hok : ∀ t ∈ l, TrainOk t = true) : PureF Tryz.prog n_spec_l05Different [.c (.sl 2 (l.map Train.enc))] (.c (.b (decide ((l.flatMap IdsOf).Nodup)))) := by
  refine pure_of h_spec_l05Different (by simp) fun hwf => ?_
  have fin : Distinct l = false → decide ((l.flatMap IdsOf).Nodup) = false := by
    intro h
    have h1 : l.all TrainOk = true := List.all_eq_true.2 hok
    simpa [Distinct, h1, h8] using h
  simp -dsimp -implicitDefEqProofs [c_spec_l05Different]
  refine loop_rule (ι := Nat) (fun k => k ≤ l.length ∧ (idsUpto l k).Nodup) (fun k => stOf [(0, .c (.sl 2 (l.map Train.enc))), (3, .own 8 1 (idsUpto l k).length), (4, .c (.i k))] [(8, .row 1 ((idsUpto l k).map ienc))]) (fun k => l.length - k) 0 (by simp [idsUpto_zero]) (by apply le_of <;> simp [AV.refs1, AV.ref0, Obj.refs1, idsUpto_zero]) ?_
  rintro k ⟨hk, hnd⟩
  rcases Nat.lt_or_ge k l.length with hlt | hge
  · obtain ⟨t, ht⟩ : ∃ t, l[k]? = some t := ⟨_, List.getElem?_eq_getElem hlt⟩
    have hts := hs.2 t (List.mem_of_getElem? ht)
    have h1 := hok t (List.mem_of_getElem? ht)
    have hil := Ids_len h1
    have hul := idsUpto_len (l := l) k (fun t ht => hok t (List.mem_of_mem_take ht))
    simp -dsimp -implicitDefEqProofs [ht, lt_t hlt]
    intro hlen
    first
      | refine call_lend (IdsOf_spec t hts) (by simp) rfl ?_
      | refine call_pure (IdsOf_spec t hts) (by simp) rfl ?_
      | refine ⟨_, _, IdsOf_spec t hts, by simp, .inr rfl, ?_⟩
      | refine ⟨_, _, IdsOf_spec t hts, by simp, .inl rfl, ?_⟩
      | refine callE_pure (IdsOf_spec t hts) (by simp) (.inr rfl) ?_
      | refine callE_pure (IdsOf_spec t hts) (by simp) (.inl rfl) ?_
    simp -dsimp -implicitDefEqProofs
    refine loop_rule (ι := Nat) (fun i => i ≤ (IdsOf t).length ∧ ∀ x ∈ (IdsOf t).take i, x ∉ idsUpto l k) (fun i => stOf [(0, .c (.sl 2 (l.map Train.enc))), (3, .own 8 1 (idsUpto l k).length), (4, .c (.i k)), (5, .c (.sl 1 ((IdsOf t).map ienc))), (6, .c (.i i))] [(8, .row 1 ((idsUpto l k).map ienc))]) (fun i => (IdsOf t).length - i) 0 (by simp) (by apply le_of <;> simp [AV.refs1, AV.ref0, Obj.refs1]) ?_
    rintro i ⟨hi, hni⟩
    rcases Nat.lt_or_ge i (IdsOf t).length with hlt2 | hge2
    · obtain ⟨x, hx⟩ : ∃ x, (IdsOf t)[i]? = some x := ⟨_, List.getElem?_eq_getElem hlt2⟩
      simp -dsimp -implicitDefEqProofs [lt_t hlt2]
      intro _
      refine loop_rule (ι := Nat) (fun j => j ≤ (idsUpto l k).length ∧ ∀ y ∈ (idsUpto l k).take j, y ≠ x) (fun j => stOf [(0, .c (.sl 2 (l.map Train.enc))), (3, .own 8 1 (idsUpto l k).length), (4, .c (.i k)), (5, .c (.sl 1 ((IdsOf t).map ienc))), (6, .c (.i i)), (7, .c (.i j))] [(8, .row 1 ((idsUpto l k).map ienc))]) (fun j => (idsUpto l k).length - j) 0 (by simp) (by apply le_of <;> simp [AV.refs1, AV.ref0, Obj.refs1]) ?_
      rintro j ⟨hj, hnj⟩
      rcases Nat.lt_or_ge j (idsUpto l k).length with hlt3 | hge3
      · obtain ⟨y, hy⟩ : ∃ y, (idsUpto l k)[j]? = some y := ⟨_, List.getElem?_eq_getElem hlt3⟩
        have bad : y = x → ¬ (l.flatMap IdsOf).Nodup := fun e => by
          have := fin (twice ht hx (by unfold seenAt; rw [← e]; exact List.mem_append_left _ (List.mem_of_getElem? hy)))
          simpa using this
        generalize idsUpto l k = u at *
        have g1 := (List.getElem?_eq_some_iff.1 hy).2
        simp -dsimp -implicitDefEqProofs [hx, lt_t hlt2, hy, g1, lt_t hlt3, hlt3]
        intro _
        first
          | refine ⟨fun h2 => (bad h2), fun h2 => ?_⟩
          | refine ⟨fun h2 => ?_, fun h2 => (bad h2)⟩
        refine ⟨by unfold inI; omega, j + 1, ⟨hlt3, ?_⟩, by omega, ?_⟩
        · rw [List.take_succ, hy]
          intro z hz
          rcases List.mem_append.1 hz with hz | hz
          · exact hnj z hz
          · simp at hz; subst hz; exact h2
        · apply le_of <;> simp [AV.refs1, AV.ref0, Obj.refs1]
      · rw [List.take_of_length_le hge3] at hnj
        simp -dsimp -implicitDefEqProofs [lt_f hge3]
        intro _
        refine ⟨by unfold inI; omega, i + 1, ⟨hlt2, ?_⟩, by omega, by apply le_of <;> simp [AV.refs1, AV.ref0, Obj.refs1]⟩
        rw [List.take_succ, hx]
        intro z hz
        rcases List.mem_append.1 hz with hz | hz
        · exact hni z hz
        · simp at hz; subst hz; exact fun hm => hnj _ hm rfl
    · rw [List.take_of_length_le hge2] at hni
      simp -dsimp -implicitDefEqProofs [lt_f hge2]
      have hnd2 : (idsUpto l (k + 1)).Nodup := by
        rw [idsUpto_succ ht]
        exact List.nodup_append.2 ⟨hnd, Ids_nd h1, fun a ha b hb e => hni b hb (e ▸ ha)⟩
      refine fun _ => ⟨by omega, by unfold inI; omega, k + 1, ⟨hlt, hnd2⟩, by omega, ?_⟩
      apply le_of <;> simp [AV.refs1, AV.ref0, Obj.refs1, idsUpto_succ ht]
  · simp -dsimp -implicitDefEqProofs [lt_f hge]
    rw [idsUpto_all hge] at hnd
    simp [hnd]
theorem l05Trains_c (l : List Train) (hs : small_TrainS l) : PureF Tryz.prog n_spec_l05Trains [.c (.sl 2 (l.map Train.enc))] (.c (.b (Distinct l))) := by
  refine pure_of h_spec_l05Trains (by simp) fun hwf => ?_
  simp -dsimp -implicitDefEqProofs [c_spec_l05Trains]
  refine loop_rule (ι := Nat) (fun k => k ≤ l.length ∧ (∀ t ∈ l.take k, TrainOk t = true) ∧ (k ≠ 0 → l.length ≤ 8)) (fun k => stOf [(0, .c (.sl 2 (l.map Train.enc))), (3, .c (.i k))] []) (fun k => l.length - k) 0 (by simp) (by apply le_of <;> simp [AV.refs1, AV.ref0, Obj.refs1]) ?_
  rintro k ⟨hk, hall, h8⟩
  rcases Nat.lt_or_ge k l.length with hlt | hge
  · obtain ⟨t, ht⟩ : ∃ t, l[k]? = some t := ⟨_, List.getElem?_eq_getElem hlt⟩
    have hts := hs.2 t (List.mem_of_getElem? ht)
    simp -dsimp -implicitDefEqProofs [ht, lt_t hlt]
    intro hlen
    first
      | refine call_lend (TrainOk_spec t hts) (by simp) rfl ?_
      | refine call_pure (TrainOk_spec t hts) (by simp) rfl ?_
      | refine ⟨_, _, TrainOk_spec t hts, by simp, .inr rfl, ?_⟩
      | refine ⟨_, _, TrainOk_spec t hts, by simp, .inl rfl, ?_⟩
      | refine callE_pure (TrainOk_spec t hts) (by simp) (.inr rfl) ?_
      | refine callE_pure (TrainOk_spec t hts) (by simp) (.inl rfl) ?_
    cases h1 : TrainOk t with
    | false => simp -dsimp -implicitDefEqProofs; exact bad_train ht h1
    | true =>
      have hall' := all_take_succ (p := TrainOk) ht hall h1
      simp -dsimp -implicitDefEqProofs
      intro _
      first
        | refine ⟨fun h9 => (by simp [Distinct]; omega), fun h9 => ?_⟩
        | refine ⟨fun h9 => ?_, fun h9 => (by simp [Distinct]; omega)⟩
      have h9' : l.length ≤ 8 := by omega
      exact ⟨inI_succ hlt hlen, k + 1, ⟨hlt, hall', fun _ => h9'⟩, by omega, by apply le_of <;> simp [AV.refs1, AV.ref0, Obj.refs1]⟩
  · have h1 := all_of_take (p := TrainOk) hge hall
    have h8' : l.length ≤ 8 := by
      rcases Nat.eq_zero_or_pos k with e | e
      · omega
      · exact h8 (by omega)
    simp -dsimp -implicitDefEqProofs [lt_f hge]
    intro _
    first
      | refine call_lend (l05Different_c l hs h8' (List.all_eq_true.1 h1)) (by simp) rfl ?_
      | refine call_pure (l05Different_c l hs h8' (List.all_eq_true.1 h1)) (by simp) rfl ?_
      | refine ⟨_, _, l05Different_c l hs h8' (List.all_eq_true.1 h1), by simp, .inr rfl, ?_⟩
      | refine ⟨_, _, l05Different_c l hs h8' (List.all_eq_true.1 h1), by simp, .inl rfl, ?_⟩
      | refine callE_pure (l05Different_c l hs h8' (List.all_eq_true.1 h1)) (by simp) (.inr rfl) ?_
      | refine callE_pure (l05Different_c l hs h8' (List.all_eq_true.1 h1)) (by simp) (.inl rfl) ?_
    simp -dsimp -implicitDefEqProofs
    simp [Distinct, h1, h8']
def LockOk (k : Lock) : Bool := inRange k.Length 1 1000 && inRange k.Width 1 100 && inRange k.SillAbove 0 100000 && inRange k.SillBelow 0 100000 && inRange k.Base 0 100000 && inRange k.Area 1 10000 && inRange k.Rate 1 100000 && inRange k.Water 0 1000000000 && inRange k.Gate 0 2 && Distinct k.Inside
theorem LockOk_impl (k : Lock) (h : k.small) : PureF Tryz.prog n_impl_LockOk [.agg (k.enc.map .c)] (.c (.b (LockOk k))) := by
  refine pure_of h_impl_LockOk (by simp) fun hwf => ?_
  simp -dsimp -implicitDefEqProofs [c_impl_LockOk]
  first
    | refine call_lend (inRange_impl k.Length 1 1000) (by simp) rfl ?_
    | refine call_pure (inRange_impl k.Length 1 1000) (by simp) rfl ?_
    | refine ⟨_, _, inRange_impl k.Length 1 1000, by simp, .inr rfl, ?_⟩
    | refine ⟨_, _, inRange_impl k.Length 1 1000, by simp, .inl rfl, ?_⟩
    | refine callE_pure (inRange_impl k.Length 1 1000) (by simp) (.inr rfl) ?_
    | refine callE_pure (inRange_impl k.Length 1 1000) (by simp) (.inl rfl) ?_
  cases h0 : inRange k.Length 1 1000 with
  | false => simp -dsimp -implicitDefEqProofs; simp [LockOk, h0]
  | true =>
  simp -dsimp -implicitDefEqProofs
  first
    | refine call_lend (inRange_impl k.Width 1 100) (by simp) rfl ?_
    | refine call_pure (inRange_impl k.Width 1 100) (by simp) rfl ?_
    | refine ⟨_, _, inRange_impl k.Width 1 100, by simp, .inr rfl, ?_⟩
    | refine ⟨_, _, inRange_impl k.Width 1 100, by simp, .inl rfl, ?_⟩
    | refine callE_pure (inRange_impl k.Width 1 100) (by simp) (.inr rfl) ?_
    | refine callE_pure (inRange_impl k.Width 1 100) (by simp) (.inl rfl) ?_
  cases h1 : inRange k.Width 1 100 with
  | false => simp -dsimp -implicitDefEqProofs; simp [LockOk, h0, h1]
  | true =>
  simp -dsimp -implicitDefEqProofs
  first
    | refine call_lend (inRange_impl k.SillAbove 0 100000) (by simp) rfl ?_
    | refine call_pure (inRange_impl k.SillAbove 0 100000) (by simp) rfl ?_
    | refine ⟨_, _, inRange_impl k.SillAbove 0 100000, by simp, .inr rfl, ?_⟩
    | refine ⟨_, _, inRange_impl k.SillAbove 0 100000, by simp, .inl rfl, ?_⟩
    | refine callE_pure (inRange_impl k.SillAbove 0 100000) (by simp) (.inr rfl) ?_
    | refine callE_pure (inRange_impl k.SillAbove 0 100000) (by simp) (.inl rfl) ?_
  cases h2 : inRange k.SillAbove 0 100000 with
  | false => simp -dsimp -implicitDefEqProofs; simp [LockOk, h0, h1, h2]
  | true =>
  simp -dsimp -implicitDefEqProofs
  first
    | refine call_lend (inRange_impl k.SillBelow 0 100000) (by simp) rfl ?_
    | refine call_pure (inRange_impl k.SillBelow 0 100000) (by simp) rfl ?_
    | refine ⟨_, _, inRange_impl k.SillBelow 0 100000, by simp, .inr rfl, ?_⟩
    | refine ⟨_, _, inRange_impl k.SillBelow 0 100000, by simp, .inl rfl, ?_⟩
    | refine callE_pure (inRange_impl k.SillBelow 0 100000) (by simp) (.inr rfl) ?_
    | refine callE_pure (inRange_impl k.SillBelow 0 100000) (by simp) (.inl rfl) ?_
  cases h3 : inRange k.SillBelow 0 100000 with
  | false => simp -dsimp -implicitDefEqProofs; simp [LockOk, h0, h1, h2, h3]
  | true =>
  simp -dsimp -implicitDefEqProofs
  first
    | refine call_lend (inRange_impl k.Base 0 100000) (by simp) rfl ?_
    | refine call_pure (inRange_impl k.Base 0 100000) (by simp) rfl ?_
    | refine ⟨_, _, inRange_impl k.Base 0 100000, by simp, .inr rfl, ?_⟩
    | refine ⟨_, _, inRange_impl k.Base 0 100000, by simp, .inl rfl, ?_⟩
    | refine callE_pure (inRange_impl k.Base 0 100000) (by simp) (.inr rfl) ?_
    | refine callE_pure (inRange_impl k.Base 0 100000) (by simp) (.inl rfl) ?_
  cases h4 : inRange k.Base 0 100000 with
  | false => simp -dsimp -implicitDefEqProofs; simp [LockOk, h0, h1, h2, h3, h4]
  | true =>
  simp -dsimp -implicitDefEqProofs
  first
    | refine call_lend (inRange_impl k.Area 1 10000) (by simp) rfl ?_
    | refine call_pure (inRange_impl k.Area 1 10000) (by simp) rfl ?_
    | refine ⟨_, _, inRange_impl k.Area 1 10000, by simp, .inr rfl, ?_⟩
    | refine ⟨_, _, inRange_impl k.Area 1 10000, by simp, .inl rfl, ?_⟩
    | refine callE_pure (inRange_impl k.Area 1 10000) (by simp) (.inr rfl) ?_
    | refine callE_pure (inRange_impl k.Area 1 10000) (by simp) (.inl rfl) ?_
  cases h5 : inRange k.Area 1 10000 with
  | false => simp -dsimp -implicitDefEqProofs; simp [LockOk, h0, h1, h2, h3, h4, h5]
  | true =>
  simp -dsimp -implicitDefEqProofs
  first
    | refine call_lend (inRange_impl k.Rate 1 100000) (by simp) rfl ?_
    | refine call_pure (inRange_impl k.Rate 1 100000) (by simp) rfl ?_
    | refine ⟨_, _, inRange_impl k.Rate 1 100000, by simp, .inr rfl, ?_⟩
    | refine ⟨_, _, inRange_impl k.Rate 1 100000, by simp, .inl rfl, ?_⟩
    | refine callE_pure (inRange_impl k.Rate 1 100000) (by simp) (.inr rfl) ?_
    | refine callE_pure (inRange_impl k.Rate 1 100000) (by simp) (.inl rfl) ?_
  cases h6 : inRange k.Rate 1 100000 with
  | false => simp -dsimp -implicitDefEqProofs; simp [LockOk, h0, h1, h2, h3, h4, h5, h6]
  | true =>
  simp -dsimp -implicitDefEqProofs
  first
    | refine call_lend (inRange_impl k.Water 0 1000000000) (by simp) rfl ?_
    | refine call_pure (inRange_impl k.Water 0 1000000000) (by simp) rfl ?_
    | refine ⟨_, _, inRange_impl k.Water 0 1000000000, by simp, .inr rfl, ?_⟩
    | refine ⟨_, _, inRange_impl k.Water 0 1000000000, by simp, .inl rfl, ?_⟩
    | refine callE_pure (inRange_impl k.Water 0 1000000000) (by simp) (.inr rfl) ?_
    | refine callE_pure (inRange_impl k.Water 0 1000000000) (by simp) (.inl rfl) ?_
  cases h7 : inRange k.Water 0 1000000000 with
  | false => simp -dsimp -implicitDefEqProofs; simp [LockOk, h0, h1, h2, h3, h4, h5, h6, h7]
  | true =>
  simp -dsimp -implicitDefEqProofs
  first
    | refine call_lend (inRange_impl k.Gate 0 2) (by simp) rfl ?_
    | refine call_pure (inRange_impl k.Gate 0 2) (by simp) rfl ?_
    | refine ⟨_, _, inRange_impl k.Gate 0 2, by simp, .inr rfl, ?_⟩
    | refine ⟨_, _, inRange_impl k.Gate 0 2, by simp, .inl rfl, ?_⟩
    | refine callE_pure (inRange_impl k.Gate 0 2) (by simp) (.inr rfl) ?_
    | refine callE_pure (inRange_impl k.Gate 0 2) (by simp) (.inl rfl) ?_
  cases h8 : inRange k.Gate 0 2 with
  | false => simp -dsimp -implicitDefEqProofs; simp [LockOk, h0, h1, h2, h3, h4, h5, h6, h7, h8]
  | true =>
  simp -dsimp -implicitDefEqProofs
  first
    | refine call_lend (distinctTrains_c k.Inside h) (by simp) rfl ?_
    | refine call_pure (distinctTrains_c k.Inside h) (by simp) rfl ?_
    | refine ⟨_, _, distinctTrains_c k.Inside h, by simp, .inr rfl, ?_⟩
    | refine ⟨_, _, distinctTrains_c k.Inside h, by simp, .inl rfl, ?_⟩
    | refine callE_pure (distinctTrains_c k.Inside h) (by simp) (.inr rfl) ?_
    | refine callE_pure (distinctTrains_c k.Inside h) (by simp) (.inl rfl) ?_
  cases h9 : Distinct k.Inside with
  | false => simp -dsimp -implicitDefEqProofs; simp [LockOk, h0, h1, h2, h3, h4, h5, h6, h7, h8, h9]
  | true =>
    simp -dsimp -implicitDefEqProofs; simp [LockOk, h0, h1, h2, h3, h4, h5, h6, h7, h8, h9]
theorem LockOk_spec (k : Lock) (h : k.small) : PureF Tryz.prog n_spec_LockOk [.agg (k.enc.map .c)] (.c (.b (LockOk k))) := by
  refine pure_of h_spec_LockOk (by simp) fun hwf => ?_
  simp -dsimp -implicitDefEqProofs [c_spec_LockOk]
  first
    | refine call_lend (inRange_spec k.Length 1 1000) (by simp) rfl ?_
    | refine call_pure (inRange_spec k.Length 1 1000) (by simp) rfl ?_
    | refine ⟨_, _, inRange_spec k.Length 1 1000, by simp, .inr rfl, ?_⟩
    | refine ⟨_, _, inRange_spec k.Length 1 1000, by simp, .inl rfl, ?_⟩
    | refine callE_pure (inRange_spec k.Length 1 1000) (by simp) (.inr rfl) ?_
    | refine callE_pure (inRange_spec k.Length 1 1000) (by simp) (.inl rfl) ?_
  cases h0 : inRange k.Length 1 1000 with
  | false => simp -dsimp -implicitDefEqProofs; simp [LockOk, h0]
  | true =>
  simp -dsimp -implicitDefEqProofs
  first
    | refine call_lend (inRange_spec k.Width 1 100) (by simp) rfl ?_
    | refine call_pure (inRange_spec k.Width 1 100) (by simp) rfl ?_
    | refine ⟨_, _, inRange_spec k.Width 1 100, by simp, .inr rfl, ?_⟩
    | refine ⟨_, _, inRange_spec k.Width 1 100, by simp, .inl rfl, ?_⟩
    | refine callE_pure (inRange_spec k.Width 1 100) (by simp) (.inr rfl) ?_
    | refine callE_pure (inRange_spec k.Width 1 100) (by simp) (.inl rfl) ?_
  cases h1 : inRange k.Width 1 100 with
  | false => simp -dsimp -implicitDefEqProofs; simp [LockOk, h0, h1]
  | true =>
  simp -dsimp -implicitDefEqProofs
  first
    | refine call_lend (l03Level_c k.SillAbove) (by simp) rfl ?_
    | refine call_pure (l03Level_c k.SillAbove) (by simp) rfl ?_
    | refine ⟨_, _, l03Level_c k.SillAbove, by simp, .inr rfl, ?_⟩
    | refine ⟨_, _, l03Level_c k.SillAbove, by simp, .inl rfl, ?_⟩
    | refine callE_pure (l03Level_c k.SillAbove) (by simp) (.inr rfl) ?_
    | refine callE_pure (l03Level_c k.SillAbove) (by simp) (.inl rfl) ?_
  cases h2 : inRange k.SillAbove 0 100000 with
  | false => simp -dsimp -implicitDefEqProofs; simp [LockOk, h0, h1, h2]
  | true =>
  simp -dsimp -implicitDefEqProofs
  first
    | refine call_lend (l03Level_c k.SillBelow) (by simp) rfl ?_
    | refine call_pure (l03Level_c k.SillBelow) (by simp) rfl ?_
    | refine ⟨_, _, l03Level_c k.SillBelow, by simp, .inr rfl, ?_⟩
    | refine ⟨_, _, l03Level_c k.SillBelow, by simp, .inl rfl, ?_⟩
    | refine callE_pure (l03Level_c k.SillBelow) (by simp) (.inr rfl) ?_
    | refine callE_pure (l03Level_c k.SillBelow) (by simp) (.inl rfl) ?_
  cases h3 : inRange k.SillBelow 0 100000 with
  | false => simp -dsimp -implicitDefEqProofs; simp [LockOk, h0, h1, h2, h3]
  | true =>
  simp -dsimp -implicitDefEqProofs
  first
    | refine call_lend (l03Level_c k.Base) (by simp) rfl ?_
    | refine call_pure (l03Level_c k.Base) (by simp) rfl ?_
    | refine ⟨_, _, l03Level_c k.Base, by simp, .inr rfl, ?_⟩
    | refine ⟨_, _, l03Level_c k.Base, by simp, .inl rfl, ?_⟩
    | refine callE_pure (l03Level_c k.Base) (by simp) (.inr rfl) ?_
    | refine callE_pure (l03Level_c k.Base) (by simp) (.inl rfl) ?_
  cases h4 : inRange k.Base 0 100000 with
  | false => simp -dsimp -implicitDefEqProofs; simp [LockOk, h0, h1, h2, h3, h4]
  | true =>
  simp -dsimp -implicitDefEqProofs
  first
    | refine call_lend (inRange_spec k.Area 1 10000) (by simp) rfl ?_
    | refine call_pure (inRange_spec k.Area 1 10000) (by simp) rfl ?_
    | refine ⟨_, _, inRange_spec k.Area 1 10000, by simp, .inr rfl, ?_⟩
    | refine ⟨_, _, inRange_spec k.Area 1 10000, by simp, .inl rfl, ?_⟩
    | refine callE_pure (inRange_spec k.Area 1 10000) (by simp) (.inr rfl) ?_
    | refine callE_pure (inRange_spec k.Area 1 10000) (by simp) (.inl rfl) ?_
  cases h5 : inRange k.Area 1 10000 with
  | false => simp -dsimp -implicitDefEqProofs; simp [LockOk, h0, h1, h2, h3, h4, h5]
  | true =>
  simp -dsimp -implicitDefEqProofs
  first
    | refine call_lend (inRange_spec k.Rate 1 100000) (by simp) rfl ?_
    | refine call_pure (inRange_spec k.Rate 1 100000) (by simp) rfl ?_
    | refine ⟨_, _, inRange_spec k.Rate 1 100000, by simp, .inr rfl, ?_⟩
    | refine ⟨_, _, inRange_spec k.Rate 1 100000, by simp, .inl rfl, ?_⟩
    | refine callE_pure (inRange_spec k.Rate 1 100000) (by simp) (.inr rfl) ?_
    | refine callE_pure (inRange_spec k.Rate 1 100000) (by simp) (.inl rfl) ?_
  cases h6 : inRange k.Rate 1 100000 with
  | false => simp -dsimp -implicitDefEqProofs; simp [LockOk, h0, h1, h2, h3, h4, h5, h6]
  | true =>
  simp -dsimp -implicitDefEqProofs
  first
    | refine call_lend (inRange_spec k.Water 0 1000000000) (by simp) rfl ?_
    | refine call_pure (inRange_spec k.Water 0 1000000000) (by simp) rfl ?_
    | refine ⟨_, _, inRange_spec k.Water 0 1000000000, by simp, .inr rfl, ?_⟩
    | refine ⟨_, _, inRange_spec k.Water 0 1000000000, by simp, .inl rfl, ?_⟩
    | refine callE_pure (inRange_spec k.Water 0 1000000000) (by simp) (.inr rfl) ?_
    | refine callE_pure (inRange_spec k.Water 0 1000000000) (by simp) (.inl rfl) ?_
  cases h7 : inRange k.Water 0 1000000000 with
  | false => simp -dsimp -implicitDefEqProofs; simp [LockOk, h0, h1, h2, h3, h4, h5, h6, h7]
  | true =>
  simp -dsimp -implicitDefEqProofs
  first
    | refine call_lend (inRange_spec k.Gate 0 2) (by simp) rfl ?_
    | refine call_pure (inRange_spec k.Gate 0 2) (by simp) rfl ?_
    | refine ⟨_, _, inRange_spec k.Gate 0 2, by simp, .inr rfl, ?_⟩
    | refine ⟨_, _, inRange_spec k.Gate 0 2, by simp, .inl rfl, ?_⟩
    | refine callE_pure (inRange_spec k.Gate 0 2) (by simp) (.inr rfl) ?_
    | refine callE_pure (inRange_spec k.Gate 0 2) (by simp) (.inl rfl) ?_
  cases h8 : inRange k.Gate 0 2 with
  | false => simp -dsimp -implicitDefEqProofs; simp [LockOk, h0, h1, h2, h3, h4, h5, h6, h7, h8]
  | true =>
  simp -dsimp -implicitDefEqProofs
  first
    | refine call_lend (l05Trains_c k.Inside h) (by simp) rfl ?_
    | refine call_pure (l05Trains_c k.Inside h) (by simp) rfl ?_
    | refine ⟨_, _, l05Trains_c k.Inside h, by simp, .inr rfl, ?_⟩
    | refine ⟨_, _, l05Trains_c k.Inside h, by simp, .inl rfl, ?_⟩
    | refine callE_pure (l05Trains_c k.Inside h) (by simp) (.inr rfl) ?_
    | refine callE_pure (l05Trains_c k.Inside h) (by simp) (.inl rfl) ?_
  cases h9 : Distinct k.Inside with
  | false => simp -dsimp -implicitDefEqProofs; simp [LockOk, h0, h1, h2, h3, h4, h5, h6, h7, h8, h9]
  | true =>
    simp -dsimp -implicitDefEqProofs; simp [LockOk, h0, h1, h2, h3, h4, h5, h6, h7, h8, h9]
def WorkOk (w : Work) : Bool := LockOk w.Lock && WeirOk w.Weir && RuleOk w.Rule && PausesOk w.Pauses && TurnOk w.Turn && decide (w.Calls.length ≤ 24) && w.Calls.all CallOk
theorem wk1 {w : Work} (h : LockOk w.Lock = false) : WorkOk w = false := by simp [WorkOk, h]
theorem wk2 {w : Work} (h : WeirOk w.Weir = false) : WorkOk w = false := by simp [WorkOk, h]
theorem wk3 {w : Work} (h : RuleOk w.Rule = false) : WorkOk w = false := by simp [WorkOk, h]
theorem wk4 {w : Work} (h : PausesOk w.Pauses = false) : WorkOk w = false := by simp [WorkOk, h]
theorem wk5 {w : Work} (h : TurnOk w.Turn = false) : WorkOk w = false := by simp [WorkOk, h]
theorem wk6 {w : Work} (h : 24 < w.Calls.length) : WorkOk w = false := by
  have : ¬ w.Calls.length ≤ 24 := by omega
  simp [WorkOk, this]
theorem wk7 {w : Work} {k : Nat} {c : CallT} (hc : w.Calls[k]? = some c) (h : CallOk c = false) : WorkOk w = false := by
  have : w.Calls.all CallOk = false := all_false (p := CallOk) hc h
  simp only [WorkOk, this, Bool.and_false]
theorem WorkOk_impl (w : Work) (hs : w.small) : PureF Tryz.prog n_impl_WorkOk [.agg (w.enc.map .c)] (.c (.b (WorkOk w))) := by
  refine pure_of h_impl_WorkOk (by simp) fun hwf => ?_
  simp -dsimp -implicitDefEqProofs [c_impl_WorkOk]
  first
    | refine call_lend (LockOk_impl w.Lock hs.1) (by simp) rfl ?_
    | refine call_pure (LockOk_impl w.Lock hs.1) (by simp) rfl ?_
    | refine ⟨_, _, LockOk_impl w.Lock hs.1, by simp, .inr rfl, ?_⟩
    | refine ⟨_, _, LockOk_impl w.Lock hs.1, by simp, .inl rfl, ?_⟩
    | refine callE_pure (LockOk_impl w.Lock hs.1) (by simp) (.inr rfl) ?_
    | refine callE_pure (LockOk_impl w.Lock hs.1) (by simp) (.inl rfl) ?_
  cases h1 : LockOk w.Lock with
  | false => simp -dsimp -implicitDefEqProofs; exact wk1 h1
  | true =>
  simp -dsimp -implicitDefEqProofs
  first
    | refine call_lend (WeirOk_impl w.Weir) (by simp) rfl ?_
    | refine call_pure (WeirOk_impl w.Weir) (by simp) rfl ?_
    | refine ⟨_, _, WeirOk_impl w.Weir, by simp, .inr rfl, ?_⟩
    | refine ⟨_, _, WeirOk_impl w.Weir, by simp, .inl rfl, ?_⟩
    | refine callE_pure (WeirOk_impl w.Weir) (by simp) (.inr rfl) ?_
    | refine callE_pure (WeirOk_impl w.Weir) (by simp) (.inl rfl) ?_
  cases h2 : WeirOk w.Weir with
  | false => simp -dsimp -implicitDefEqProofs; exact wk2 h2
  | true =>
  simp -dsimp -implicitDefEqProofs
  first
    | refine call_lend (RuleOk_impl w.Rule) (by simp) rfl ?_
    | refine call_pure (RuleOk_impl w.Rule) (by simp) rfl ?_
    | refine ⟨_, _, RuleOk_impl w.Rule, by simp, .inr rfl, ?_⟩
    | refine ⟨_, _, RuleOk_impl w.Rule, by simp, .inl rfl, ?_⟩
    | refine callE_pure (RuleOk_impl w.Rule) (by simp) (.inr rfl) ?_
    | refine callE_pure (RuleOk_impl w.Rule) (by simp) (.inl rfl) ?_
  cases h3 : RuleOk w.Rule with
  | false => simp -dsimp -implicitDefEqProofs; exact wk3 h3
  | true =>
  simp -dsimp -implicitDefEqProofs
  first
    | refine call_lend (PausesOk_impl w.Pauses) (by simp) rfl ?_
    | refine call_pure (PausesOk_impl w.Pauses) (by simp) rfl ?_
    | refine ⟨_, _, PausesOk_impl w.Pauses, by simp, .inr rfl, ?_⟩
    | refine ⟨_, _, PausesOk_impl w.Pauses, by simp, .inl rfl, ?_⟩
    | refine callE_pure (PausesOk_impl w.Pauses) (by simp) (.inr rfl) ?_
    | refine callE_pure (PausesOk_impl w.Pauses) (by simp) (.inl rfl) ?_
  cases h4 : PausesOk w.Pauses with
  | false => simp -dsimp -implicitDefEqProofs; exact wk4 h4
  | true =>
  simp -dsimp -implicitDefEqProofs
  first
    | refine call_lend (TurnOk_impl w.Turn) (by simp) rfl ?_
    | refine call_pure (TurnOk_impl w.Turn) (by simp) rfl ?_
    | refine ⟨_, _, TurnOk_impl w.Turn, by simp, .inr rfl, ?_⟩
    | refine ⟨_, _, TurnOk_impl w.Turn, by simp, .inl rfl, ?_⟩
    | refine callE_pure (TurnOk_impl w.Turn) (by simp) (.inr rfl) ?_
    | refine callE_pure (TurnOk_impl w.Turn) (by simp) (.inl rfl) ?_
  cases h5 : TurnOk w.Turn with
  | false => simp -dsimp -implicitDefEqProofs; exact wk5 h5
  | true =>
  simp -dsimp -implicitDefEqProofs
  intro hlen
  first
    | refine ⟨fun h6 => (wk6 (by omega)), fun h6 => ?_⟩
    | refine ⟨fun h6 => ?_, fun h6 => (wk6 (by omega))⟩
  refine fun _ => loop_rule (ι := Nat) (fun k => k ≤ w.Calls.length ∧ ∀ c ∈ w.Calls.take k, CallOk c = true) (fun k => stOf [(38, .c (.sl 4 (w.Calls.map CallT.enc))), (39, .c (.i w.Calls.length)), (40, .c (.i k))] []) (fun k => w.Calls.length - k) 0 (by simp) (by apply le_of <;> simp [AV.refs1, AV.ref0, Obj.refs1]) ?_
  rintro k ⟨hk, hall⟩
  rcases Nat.lt_or_ge k w.Calls.length with hlt | hge
  · obtain ⟨c, hc⟩ : ∃ c, w.Calls[k]? = some c := ⟨_, List.getElem?_eq_getElem hlt⟩
    simp -dsimp -implicitDefEqProofs [hc, lt_t hlt]
    first
      | refine call_lend (CallOk_impl c (hs.2.2.2 c (List.mem_of_getElem? hc))) (by simp) rfl ?_
      | refine call_pure (CallOk_impl c (hs.2.2.2 c (List.mem_of_getElem? hc))) (by simp) rfl ?_
      | refine ⟨_, _, CallOk_impl c (hs.2.2.2 c (List.mem_of_getElem? hc)), by simp, .inr rfl, ?_⟩
      | refine ⟨_, _, CallOk_impl c (hs.2.2.2 c (List.mem_of_getElem? hc)), by simp, .inl rfl, ?_⟩
      | refine callE_pure (CallOk_impl c (hs.2.2.2 c (List.mem_of_getElem? hc))) (by simp) (.inr rfl) ?_
      | refine callE_pure (CallOk_impl c (hs.2.2.2 c (List.mem_of_getElem? hc))) (by simp) (.inl rfl) ?_
    cases h7 : CallOk c with
    | false => simp -dsimp -implicitDefEqProofs; exact wk7 hc h7
    | true =>
      simp -dsimp -implicitDefEqProofs
      exact ⟨inI_succ hlt hlen, k + 1, ⟨hlt, all_take_succ (p := CallOk) hc hall h7⟩, by omega, by apply le_of <;> simp [AV.refs1, AV.ref0, Obj.refs1]⟩
  · simp -dsimp -implicitDefEqProofs [lt_f hge]
    have h7 := all_of_take (p := CallOk) hge hall
    have h6' : w.Calls.length ≤ 24 := by omega
    simp [WorkOk, h1, h2, h3, h4, h5, h6', h7]
theorem WorkOk_spec (w : Work) (hs : w.small) : PureF Tryz.prog n_spec_WorkOk [.agg (w.enc.map .c)] (.c (.b (WorkOk w))) := by
  refine pure_of h_spec_WorkOk (by simp) fun hwf => ?_
  simp -dsimp -implicitDefEqProofs [c_spec_WorkOk]
  refine loop_rule (ι := Nat) (fun k => k ≤ w.Calls.length ∧ ∀ c ∈ w.Calls.take k, CallOk c = true) (fun k => stOf [(1, .box 1 0), (3, .c (.i k))] [(1, .box (w.enc.map .c))]) (fun k => w.Calls.length - k) 0 (by simp) (by apply le_of <;> simp [AV.refs1, AV.ref0, Obj.refs1]) ?_
  rintro k ⟨hk, hall⟩
  rcases Nat.lt_or_ge k w.Calls.length with hlt | hge
  · obtain ⟨c, hc⟩ : ∃ c, w.Calls[k]? = some c := ⟨_, List.getElem?_eq_getElem hlt⟩
    simp -dsimp -implicitDefEqProofs [hc, lt_t hlt]
    intro hlen
    first
      | refine call_lend (CallOk_spec c (hs.2.2.2 c (List.mem_of_getElem? hc))) (by simp) rfl ?_
      | refine call_pure (CallOk_spec c (hs.2.2.2 c (List.mem_of_getElem? hc))) (by simp) rfl ?_
      | refine ⟨_, _, CallOk_spec c (hs.2.2.2 c (List.mem_of_getElem? hc)), by simp, .inr rfl, ?_⟩
      | refine ⟨_, _, CallOk_spec c (hs.2.2.2 c (List.mem_of_getElem? hc)), by simp, .inl rfl, ?_⟩
      | refine callE_pure (CallOk_spec c (hs.2.2.2 c (List.mem_of_getElem? hc))) (by simp) (.inr rfl) ?_
      | refine callE_pure (CallOk_spec c (hs.2.2.2 c (List.mem_of_getElem? hc))) (by simp) (.inl rfl) ?_
    cases h7 : CallOk c with
    | false => simp -dsimp -implicitDefEqProofs; exact wk7 hc h7
    | true =>
      simp -dsimp -implicitDefEqProofs
      exact ⟨inI_succ hlt hlen, k + 1, ⟨hlt, all_take_succ (p := CallOk) hc hall h7⟩, by omega, by apply le_of <;> simp [AV.refs1, AV.ref0, Obj.refs1]⟩
  · simp -dsimp -implicitDefEqProofs [lt_f hge]
    have h7 := all_of_take (p := CallOk) hge hall
    intro _
    first
      | refine ⟨fun h6 => (wk6 (by omega)), fun h6 => ?_⟩
      | refine ⟨fun h6 => ?_, fun h6 => (wk6 (by omega))⟩
    have h6' : w.Calls.length ≤ 24 := by omega
    first
      | refine call_lend (LockOk_spec w.Lock hs.1) (by simp) rfl ?_
      | refine call_pure (LockOk_spec w.Lock hs.1) (by simp) rfl ?_
      | refine ⟨_, _, LockOk_spec w.Lock hs.1, by simp, .inr rfl, ?_⟩
      | refine ⟨_, _, LockOk_spec w.Lock hs.1, by simp, .inl rfl, ?_⟩
      | refine callE_pure (LockOk_spec w.Lock hs.1) (by simp) (.inr rfl) ?_
      | refine callE_pure (LockOk_spec w.Lock hs.1) (by simp) (.inl rfl) ?_
    cases h1 : LockOk w.Lock with
    | false => simp -dsimp -implicitDefEqProofs; exact wk1 h1
    | true =>
    simp -dsimp -implicitDefEqProofs
    first
      | refine call_lend (WeirOk_spec w.Weir) (by simp) rfl ?_
      | refine call_pure (WeirOk_spec w.Weir) (by simp) rfl ?_
      | refine ⟨_, _, WeirOk_spec w.Weir, by simp, .inr rfl, ?_⟩
      | refine ⟨_, _, WeirOk_spec w.Weir, by simp, .inl rfl, ?_⟩
      | refine callE_pure (WeirOk_spec w.Weir) (by simp) (.inr rfl) ?_
      | refine callE_pure (WeirOk_spec w.Weir) (by simp) (.inl rfl) ?_
    cases h2 : WeirOk w.Weir with
    | false => simp -dsimp -implicitDefEqProofs; exact wk2 h2
    | true =>
    simp -dsimp -implicitDefEqProofs
    first
      | refine call_lend (RuleOk_spec w.Rule) (by simp) rfl ?_
      | refine call_pure (RuleOk_spec w.Rule) (by simp) rfl ?_
      | refine ⟨_, _, RuleOk_spec w.Rule, by simp, .inr rfl, ?_⟩
      | refine ⟨_, _, RuleOk_spec w.Rule, by simp, .inl rfl, ?_⟩
      | refine callE_pure (RuleOk_spec w.Rule) (by simp) (.inr rfl) ?_
      | refine callE_pure (RuleOk_spec w.Rule) (by simp) (.inl rfl) ?_
    cases h3 : RuleOk w.Rule with
    | false => simp -dsimp -implicitDefEqProofs; exact wk3 h3
    | true =>
    simp -dsimp -implicitDefEqProofs
    first
      | refine call_lend (PausesOk_spec w.Pauses) (by simp) rfl ?_
      | refine call_pure (PausesOk_spec w.Pauses) (by simp) rfl ?_
      | refine ⟨_, _, PausesOk_spec w.Pauses, by simp, .inr rfl, ?_⟩
      | refine ⟨_, _, PausesOk_spec w.Pauses, by simp, .inl rfl, ?_⟩
      | refine callE_pure (PausesOk_spec w.Pauses) (by simp) (.inr rfl) ?_
      | refine callE_pure (PausesOk_spec w.Pauses) (by simp) (.inl rfl) ?_
    cases h4 : PausesOk w.Pauses with
    | false => simp -dsimp -implicitDefEqProofs; exact wk4 h4
    | true =>
    simp -dsimp -implicitDefEqProofs
    first
      | refine call_lend (TurnOk_spec w.Turn) (by simp) rfl ?_
      | refine call_pure (TurnOk_spec w.Turn) (by simp) rfl ?_
      | refine ⟨_, _, TurnOk_spec w.Turn, by simp, .inr rfl, ?_⟩
      | refine ⟨_, _, TurnOk_spec w.Turn, by simp, .inl rfl, ?_⟩
      | refine callE_pure (TurnOk_spec w.Turn) (by simp) (.inr rfl) ?_
      | refine callE_pure (TurnOk_spec w.Turn) (by simp) (.inl rfl) ?_
    simp -dsimp -implicitDefEqProofs
    simp [WorkOk, h1, h2, h3, h4, h6', h7]
end Go.Proofs.YtpcopekamgapaaaGreat
