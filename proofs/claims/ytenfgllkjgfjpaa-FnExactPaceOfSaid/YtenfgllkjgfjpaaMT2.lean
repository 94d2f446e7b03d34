/- Contracts of functions of this seat: what each answers, as plain Lean. -/
import Derived.Test.YtenfgllkjgfjpaaMT1
set_option linter.all false
namespace Go.Proofs.Ytenfgllkjgfjpaa
open Go.RowKit

structure Way where
  Long : Int
  Bed : Int
@[simp] def Way.enc (e : Way) : List C := [.i e.Long, .i e.Bed]
def WayOk (e : Way) : Bool := inRange e.Long 1 10000 && inRange e.Bed 0 100000

theorem l03Level_c (n : Int) : PureF Try.prog n_spec_l03Level [.c (.i n)] (.c (.b (inRange n 0 100000))) := by
  refine pure_of h_spec_l03Level (by simp) fun hwf => ?_
  simp -dsimp -implicitDefEqProofs [c_spec_l03Level]
  refine call_lend (inRange_spec n 0 100000) (by simp) rfl ?_
  simp -dsimp -implicitDefEqProofs
theorem WayOk_impl (e : Way) : PureF Try.prog n_impl_WayOk [.agg (e.enc.map .c)] (.c (.b (WayOk e))) := by
  refine pure_of h_impl_WayOk (by simp) fun hwf => ?_
  simp -dsimp -implicitDefEqProofs [c_impl_WayOk]
  refine call_lend (inRange_impl e.Long 1 10000) (by simp) rfl ?_
  simp -dsimp -implicitDefEqProofs
  refine ⟨fun h => ?_, fun h => by simp [WayOk, h]⟩
  refine call_lend (inRange_impl e.Bed 0 100000) (by simp) rfl ?_
  simp -dsimp -implicitDefEqProofs
  simp [WayOk, h]
theorem WayOk_spec (e : Way) : PureF Try.prog n_spec_WayOk [.agg (e.enc.map .c)] (.c (.b (WayOk e))) := by
  refine pure_of h_spec_WayOk (by simp) fun hwf => ?_
  simp -dsimp -implicitDefEqProofs [c_spec_WayOk]
  refine call_lend (inRange_spec e.Long 1 10000) (by simp) rfl ?_
  simp -dsimp -implicitDefEqProofs
  refine ⟨fun h => ?_, fun h => by simp [WayOk, h]⟩
  refine call_lend (l03Level_c e.Bed) (by simp) rfl ?_
  simp -dsimp -implicitDefEqProofs
  simp [WayOk, h]
theorem toWay_c (e : Way) : PureF Try.prog n_laws_toWay [.agg (e.enc.map .c)] (.agg (e.enc.map .c)) := by
  refine pure_of h_laws_toWay (by simp) fun hwf => ?_
  simp -dsimp -implicitDefEqProofs [c_laws_toWay]
theorem FnExactWayOk_c (e : Way) : PureF Try.prog n_laws_FnExactWayOk [.agg (e.enc.map .c)] (.c (.b true)) := by
  refine pure_of h_laws_FnExactWayOk (by simp) fun hwf => ?_
  simp -dsimp -implicitDefEqProofs [c_laws_FnExactWayOk]
  refine call_pure (toWay_c e) (by simp) rfl ?_
  simp -dsimp -implicitDefEqProofs
  refine call_lend (WayOk_spec e) (by simp) rfl ?_
  simp -dsimp -implicitDefEqProofs
  refine call_pure (toWay_c e) (by simp) rfl ?_
  simp -dsimp -implicitDefEqProofs
  refine call_lend (WayOk_impl e) (by simp) rfl ?_
  simp -dsimp -implicitDefEqProofs

theorem EntryOk_spec (e : Entry) : PureF Try.prog n_spec_EntryOk [.agg (e.enc.map .c)] (.c (.b (EntryOk e))) := by
  refine pure_of h_spec_EntryOk (by simp) fun hwf => ?_
  simp -dsimp -implicitDefEqProofs [c_spec_EntryOk]
  refine ⟨fun h => ?_, fun h => by simp [EntryOk, h]⟩
  refine call_lend (inRange_spec e.From 0 11) (by simp) rfl ?_
  simp -dsimp -implicitDefEqProofs
  refine ⟨fun h1 => ?_, fun h1 => by simp [EntryOk, h1]⟩
  refine call_lend (inRange_spec e.To 0 11) (by simp) rfl ?_
  simp -dsimp -implicitDefEqProofs
  refine ⟨fun h2 => ?_, fun h1 => by simp [EntryOk, h1]⟩
  refine call_lend (inRange_spec e.Amount 1 1000000000) (by simp) rfl ?_
  simp -dsimp -implicitDefEqProofs
  refine ⟨fun h3 => ?_, fun h1 => by simp [EntryOk, h1]⟩
  refine call_lend (inRange_spec e.Time 0 1000000) (by simp) rfl ?_
  simp -dsimp -implicitDefEqProofs
  refine ⟨fun h4 => ?_, fun h1 => by simp [EntryOk, h1]⟩
  refine call_lend (inRange_spec e.Why 0 9999) (by simp) rfl ?_
  simp -dsimp -implicitDefEqProofs
  simp [EntryOk, h, h1, h2, h3, h4]
theorem toEntry_c (e : Entry) : PureF Try.prog n_laws_toEntry [.agg (e.enc.map .c)] (.agg (e.enc.map .c)) := by
  refine pure_of h_laws_toEntry (by simp) fun hwf => ?_
  simp -dsimp -implicitDefEqProofs [c_laws_toEntry]
theorem FnExactEntryOk_c (e : Entry) : PureF Try.prog n_laws_FnExactEntryOk [.agg (e.enc.map .c)] (.c (.b true)) := by
  refine pure_of h_laws_FnExactEntryOk (by simp) fun hwf => ?_
  simp -dsimp -implicitDefEqProofs [c_laws_FnExactEntryOk]
  refine call_pure (toEntry_c e) (by simp) rfl ?_
  simp -dsimp -implicitDefEqProofs
  refine call_lend (EntryOk_spec e) (by simp) rfl ?_
  simp -dsimp -implicitDefEqProofs
  refine call_pure (toEntry_c e) (by simp) rfl ?_
  simp -dsimp -implicitDefEqProofs
  refine call_lend (EntryOk_impl e) (by simp) rfl ?_
  simp -dsimp -implicitDefEqProofs
theorem eqEntry_c (e f : Entry) : PureF Try.prog n_laws_eqEntry [.agg (e.enc.map .c), .agg (f.enc.map .c)] (.c (.b (decide (e = f)))) := by
  refine pure_of h_laws_eqEntry (by simp) fun hwf => ?_
  obtain ⟨a1, a2, a3, a4, a5⟩ := e
  obtain ⟨b1, b2, b3, b4, b5⟩ := f
  simp -dsimp -implicitDefEqProofs [c_laws_eqEntry, Entry.mk.injEq]
  refine ⟨fun h => by simp [h], fun h => ⟨fun h1 => by simp [h1], fun h1 => ⟨fun h2 => by simp [h2], fun h2 => ⟨fun h3 => by simp [h3], fun h3 => ⟨fun h4 => by simp [h4], fun h4 => by simp [h, h1, h2, h3, h4]⟩⟩⟩⟩⟩

end Go.Proofs.Ytenfgllkjgfjpaa
