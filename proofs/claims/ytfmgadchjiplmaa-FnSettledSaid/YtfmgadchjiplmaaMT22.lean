/- Contracts of functions of this seat: what each answers, as plain Lean. -/
import Derived.Test.YtfmgadchjiplmaaMT9
set_option linter.all false
namespace Go.Proofs.Ytfmgadchjiplmaa
open Go.RowKit

/-! Posting entries. -/
theorem Grow_o (m : Int) (h0 : 0 ≤ m) (h1 : m ≤ 2097152) : OwnF Try.prog n_slices_Grow___impl_Entry_impl_Entry_ [.nil 5, .c (.i m)] (.c (.ow 5 [])) := by
  refine own_of h_slices_Grow___impl_Entry_impl_Entry_ (by simp) fun hwf => ?_
  simp -dsimp -implicitDefEqProofs [c_slices_Grow___impl_Entry_impl_Entry_]
  exact ⟨h0, fun _ => ⟨by unfold inI; omega, by unfold inI; omega, fun h => ⟨h0, by omega, by omega⟩⟩⟩
theorem CloneEn_o (es : List Entry) (hl : es.length ≤ 2097152) : OwnF Try.prog n_slices_Clone___impl_Entry_impl_Entry_ [.c (.sl 5 (es.map Entry.enc))] (.c (.ow 5 (es.map Entry.enc))) := by
  refine own_of h_slices_Clone___impl_Entry_impl_Entry_ (by simp) fun hwf => ?_
  simp -dsimp -implicitDefEqProofs [c_slices_Clone___impl_Entry_impl_Entry_, take_full]
  omega
def lens (a b : Nat) (k : Nat) : Int := if k = 0 then 0 else if k = 1 then a else a + b
def catTo (a b : List Entry) (k : Nat) : List Entry := if k = 0 then [] else if k = 1 then a else a ++ b
theorem ConcatEn_o (a b : List Entry) (ha : a.length ≤ 1048576) (hb : b.length ≤ 1048576) :
    OwnF Try.prog n_slices_Concat___impl_Entry_impl_Entry_ [.c (.sl 1 [[.sl 5 (a.map Entry.enc)], [.sl 5 (b.map Entry.enc)]])] (.c (.ow 5 ((a ++ b).map Entry.enc))) := by
  refine own_of h_slices_Concat___impl_Entry_impl_Entry_ (by simp) fun hwf => ?_
  simp -dsimp -implicitDefEqProofs [c_slices_Concat___impl_Entry_impl_Entry_]
  refine fun _ => loop_rule (ι := Nat) (fun k => k ≤ 2) (fun k => stOf [(0, .c (.sl 1 [[.sl 5 (a.map Entry.enc)], [.sl 5 (b.map Entry.enc)]])), (3, .c (.i (lens a.length b.length k))), (9, .c (.sl 1 [[.sl 5 (a.map Entry.enc)], [.sl 5 (b.map Entry.enc)]])), (10, .c (.i 2)), (11, .c (.i k))] []) (fun k => 2 - k) 0 (by simp) (by apply le_of <;> simp [AV.refs1, AV.ref0, Obj.refs1, lens]) ?_
  intro k hk
  obtain rfl | rfl | rfl : k = 0 ∨ k = 1 ∨ k = 2 := by omega
  · simp -dsimp -implicitDefEqProofs [lens]
    refine fun _ => ⟨by unfold inI; omega, by unfold inI; omega, 1, by omega, by omega, ?_⟩
    apply le_of <;> simp [AV.refs1, AV.ref0, Obj.refs1]
  · simp -dsimp -implicitDefEqProofs [lens]
    refine fun _ => ⟨by unfold inI; omega, by omega, fun _ => ⟨by unfold inI; omega, 2, by omega, by omega, ?_⟩⟩
    apply le_of <;> simp [AV.refs1, AV.ref0, Obj.refs1]
  · simp -dsimp -implicitDefEqProofs [lens]
    first
      | refine call_own (Grow_o (a.length + b.length) (by omega) (by omega)) (by simp ) (by simp [AV.closed, AV.closed1, C.closed]) (by simp [freshO]) ?_
      | refine callE_own (Grow_o (a.length + b.length) (by omega) (by omega)) (by simp ) (by simp [AV.closed, AV.closed1, C.closed]) (by simp [freshO]) ?_
    simp -dsimp -implicitDefEqProofs
    refine fun _ => loop_rule (ι := Nat) (fun k => k ≤ 2) (fun k => stOf [(6, .own 24 5 (catTo a b k).length), (25, .c (.sl 1 [[.sl 5 (a.map Entry.enc)], [.sl 5 (b.map Entry.enc)]])), (26, .c (.i 2)), (27, .c (.i k))] [(24, .row 5 ((catTo a b k).map Entry.enc))]) (fun k => 2 - k) 0 (by simp) (by apply le_of <;> simp [AV.refs1, AV.ref0, Obj.refs1, catTo]) ?_
    intro k hk
    obtain rfl | rfl | rfl : k = 0 ∨ k = 1 ∨ k = 2 := by omega
    · simp -dsimp -implicitDefEqProofs [catTo]
      refine ⟨by omega, by unfold inI; omega, 1, by omega, by omega, ?_⟩
      apply le_of <;> simp [AV.refs1, AV.ref0, Obj.refs1]
    · simp -dsimp -implicitDefEqProofs [catTo]
      refine ⟨by omega, by unfold inI; omega, 2, by omega, by omega, ?_⟩
      apply le_of <;> simp [AV.refs1, AV.ref0, Obj.refs1]
    · simp -dsimp -implicitDefEqProofs [catTo]
      rw [List.take_of_length_le (by simp)]
def PostEntries (book more : List Entry) : List Entry × Bool := if BookOk book && BookOk (book ++ more) then (book ++ more, true) else (book, false)
theorem PostEntries_impl (a b : List Entry) (ha : a.length ≤ 1048576) (hb : b.length ≤ 1048576) :
    OwnF Try.prog n_impl_PostEntries [.c (.sl 5 (a.map Entry.enc)), .c (.sl 5 (b.map Entry.enc))] (.tup [.c (.ow 5 ((PostEntries a b).1.map Entry.enc)), .c (.b (PostEntries a b).2)]) := by
  have hcat := ConcatEn_o a b ha hb
  have hp : PostEntries a b = if BookOk a && BookOk (a ++ b) then (a ++ b, true) else (a, false) := rfl
  have hn : 2000 < b.length → BookOk (a ++ b) = false := fun h => by simp [BookOk]; omega
  generalize a ++ b = c at hcat hp hn
  refine own_of h_impl_PostEntries (by simp) fun hwf => ?_
  simp -dsimp -implicitDefEqProofs [c_impl_PostEntries]
  first
    | refine call_lend (BookOk_impl a) (by simp) rfl ?_
    | refine call_pure (BookOk_impl a) (by simp) rfl ?_
    | refine ⟨_, _, BookOk_impl a, by simp, .inr rfl, ?_⟩
    | refine ⟨_, _, BookOk_impl a, by simp, .inl rfl, ?_⟩
    | refine callE_pure (BookOk_impl a) (by simp) (.inr rfl) ?_
    | refine callE_pure (BookOk_impl a) (by simp) (.inl rfl) ?_
  cases h : BookOk a with
  | false =>
    simp -dsimp -implicitDefEqProofs
    first
      | refine call_own (CloneEn_o a (by omega)) (by simp ) (by simp [AV.closed, AV.closed1, C.closed]) (by simp [freshO]) ?_
      | refine callE_own (CloneEn_o a (by omega)) (by simp ) (by simp [AV.closed, AV.closed1, C.closed]) (by simp [freshO]) ?_
    simp -dsimp -implicitDefEqProofs
    simp [hp, h, take_full]
  | true =>
    simp -dsimp -implicitDefEqProofs
    refine fun _ => ⟨fun h2 => ?_, fun h2 => ?_⟩
    · skip
      first
        | refine call_own (hcat) (by simp ) (by simp [AV.closed, AV.closed1, C.closed]) (by simp [freshO]) ?_
        | refine callE_own (hcat) (by simp ) (by simp [AV.closed, AV.closed1, C.closed]) (by simp [freshO]) ?_
      simp -dsimp -implicitDefEqProofs
      first
        | refine call_lend (BookOk_impl c) (by simp [take_full]) rfl ?_
        | refine call_pure (BookOk_impl c) (by simp [take_full]) rfl ?_
        | refine ⟨_, _, BookOk_impl c, by simp [take_full], .inr rfl, ?_⟩
        | refine ⟨_, _, BookOk_impl c, by simp [take_full], .inl rfl, ?_⟩
        | refine callE_pure (BookOk_impl c) (by simp [take_full]) (.inr rfl) ?_
        | refine callE_pure (BookOk_impl c) (by simp [take_full]) (.inl rfl) ?_
      cases h3 : BookOk c with
      | false =>
        simp -dsimp -implicitDefEqProofs
        first
          | refine call_own (CloneEn_o a (by omega)) (by simp ) (by simp [AV.closed, AV.closed1, C.closed]) (by simp [freshO]) ?_
          | refine callE_own (CloneEn_o a (by omega)) (by simp ) (by simp [AV.closed, AV.closed1, C.closed]) (by simp [freshO]) ?_
        simp -dsimp -implicitDefEqProofs
        simp [hp, h, h3, take_full]
      | true =>
        simp -dsimp -implicitDefEqProofs
        first
          | refine call_own (hcat) (by simp ) (by simp [AV.closed, AV.closed1, C.closed]) (by simp [freshO]) ?_
          | refine callE_own (hcat) (by simp ) (by simp [AV.closed, AV.closed1, C.closed]) (by simp [freshO]) ?_
        simp -dsimp -implicitDefEqProofs
        simp [hp, h, h3, take_full]
    · skip
      have h3 := hn (by omega)
      first
        | refine call_own (CloneEn_o a (by omega)) (by simp ) (by simp [AV.closed, AV.closed1, C.closed]) (by simp [freshO]) ?_
        | refine callE_own (CloneEn_o a (by omega)) (by simp ) (by simp [AV.closed, AV.closed1, C.closed]) (by simp [freshO]) ?_
      simp -dsimp -implicitDefEqProofs
      simp [hp, h, h3, take_full]
theorem PostEntries_spec (a b : List Entry) (ha : a.length ≤ 1048576) (hb : b.length ≤ 1048576) :
    PureF Try.prog n_spec_PostEntries [.c (.sl 5 (a.map Entry.enc)), .c (.sl 5 (b.map Entry.enc))] (.tup [.c (.sl 5 ((PostEntries a b).1.map Entry.enc)), .c (.b (PostEntries a b).2)]) := by
  have hp : PostEntries a b = if BookOk a && BookOk (a ++ b) then (a ++ b, true) else (a, false) := rfl
  have e1 : a.map Entry.enc ++ b.map Entry.enc = (a ++ b).map Entry.enc := List.map_append.symm
  have e2 : a.length + b.length = (a ++ b).length := List.length_append.symm
  generalize a ++ b = c at hp e1 e2
  refine pure_of h_spec_PostEntries (by simp) fun hwf => ?_
  simp -dsimp -implicitDefEqProofs [c_spec_PostEntries]
  refine ⟨by omega, by omega, ?_⟩
  rw [e1, e2]
  first
    | refine call_lend (BookOk_spec a) (by simp) rfl ?_
    | refine call_pure (BookOk_spec a) (by simp) rfl ?_
    | refine ⟨_, _, BookOk_spec a, by simp, .inr rfl, ?_⟩
    | refine ⟨_, _, BookOk_spec a, by simp, .inl rfl, ?_⟩
    | refine callE_pure (BookOk_spec a) (by simp) (.inr rfl) ?_
    | refine callE_pure (BookOk_spec a) (by simp) (.inl rfl) ?_
  cases h : BookOk a with
  | false =>
    simp -dsimp -implicitDefEqProofs
    simp [hp, h, take_full]; omega
  | true =>
    simp -dsimp -implicitDefEqProofs
    first
      | refine call_lend (BookOk_spec c) (by simp [take_full]) rfl ?_
      | refine call_pure (BookOk_spec c) (by simp [take_full]) rfl ?_
      | refine ⟨_, _, BookOk_spec c, by simp [take_full], .inr rfl, ?_⟩
      | refine ⟨_, _, BookOk_spec c, by simp [take_full], .inl rfl, ?_⟩
      | refine callE_pure (BookOk_spec c) (by simp [take_full]) (.inr rfl) ?_
      | refine callE_pure (BookOk_spec c) (by simp [take_full]) (.inl rfl) ?_
    cases h3 : BookOk c with
    | false =>
      simp -dsimp -implicitDefEqProofs
      simp [hp, h, h3, take_full]; omega
    | true =>
      simp -dsimp -implicitDefEqProofs
      simp [hp, h, h3, take_full]
theorem PostEntries_implP (a b : List Entry) (ha : a.length ≤ 1048576) (hb : b.length ≤ 1048576) :
    PureF Try.prog n_impl_PostEntries [.c (.sl 5 (a.map Entry.enc)), .c (.sl 5 (b.map Entry.enc))] (.tup [.c (.sl 5 ((PostEntries a b).1.map Entry.enc)), .c (.b (PostEntries a b).2)]) := (PostEntries_impl a b ha hb).pure (by simp [AV.shr, AV.shr2, AV.shr1, C.shr])
theorem PostEntries_len (a b : List Entry) : (PostEntries a b).1.length ≤ a.length + b.length := by
  unfold PostEntries; split <;> simp
theorem FnExactPostEntries_c (x0 x1 : List Entry) : PureF Try.prog n_laws_FnExactPostEntries [.c (.sl 5 (x0.map Entry.enc)), .c (.sl 5 (x1.map Entry.enc))] (.c (.b true)) := by
  refine pure_of h_laws_FnExactPostEntries (by simp) fun hwf => ?_
  simp -dsimp -implicitDefEqProofs [c_laws_FnExactPostEntries]
  first
    | refine call_lend (sz_EntryS_c x0 1048576 (by omega) (by omega)) (by simp) rfl ?_
    | refine call_pure (sz_EntryS_c x0 1048576 (by omega) (by omega)) (by simp) rfl ?_
    | refine ⟨_, _, sz_EntryS_c x0 1048576 (by omega) (by omega), by simp, .inr rfl, ?_⟩
    | refine ⟨_, _, sz_EntryS_c x0 1048576 (by omega) (by omega), by simp, .inl rfl, ?_⟩
    | refine callE_pure (sz_EntryS_c x0 1048576 (by omega) (by omega)) (by simp) (.inr rfl) ?_
    | refine callE_pure (sz_EntryS_c x0 1048576 (by omega) (by omega)) (by simp) (.inl rfl) ?_
  simp -dsimp -implicitDefEqProofs
  intro hsz
  have hl0 := sz_small sz_EntryS_ok (by omega) (by omega) hsz
  have hle0 := sz_le sz_EntryS_ok x0 (by omega) (by omega) hsz
  first
    | refine call_lend (sz_EntryS_c x1 (sz_EntryS x0 1048576) hsz hle0) (by simp) rfl ?_
    | refine call_pure (sz_EntryS_c x1 (sz_EntryS x0 1048576) hsz hle0) (by simp) rfl ?_
    | refine ⟨_, _, sz_EntryS_c x1 (sz_EntryS x0 1048576) hsz hle0, by simp, .inr rfl, ?_⟩
    | refine ⟨_, _, sz_EntryS_c x1 (sz_EntryS x0 1048576) hsz hle0, by simp, .inl rfl, ?_⟩
    | refine callE_pure (sz_EntryS_c x1 (sz_EntryS x0 1048576) hsz hle0) (by simp) (.inr rfl) ?_
    | refine callE_pure (sz_EntryS_c x1 (sz_EntryS x0 1048576) hsz hle0) (by simp) (.inl rfl) ?_
  simp -dsimp -implicitDefEqProofs
  intro hsz1
  have hl1 := sz_small sz_EntryS_ok hsz hle0 hsz1
  first
    | refine call_lend (toEntryS_c x0 hl0.1) (by simp) rfl ?_
    | refine call_pure (toEntryS_c x0 hl0.1) (by simp) rfl ?_
    | refine ⟨_, _, toEntryS_c x0 hl0.1, by simp, .inr rfl, ?_⟩
    | refine ⟨_, _, toEntryS_c x0 hl0.1, by simp, .inl rfl, ?_⟩
    | refine callE_pure (toEntryS_c x0 hl0.1) (by simp) (.inr rfl) ?_
    | refine callE_pure (toEntryS_c x0 hl0.1) (by simp) (.inl rfl) ?_
  simp -dsimp -implicitDefEqProofs
  first
    | refine call_lend (toEntryS_c x1 hl1.1) (by simp) rfl ?_
    | refine call_pure (toEntryS_c x1 hl1.1) (by simp) rfl ?_
    | refine ⟨_, _, toEntryS_c x1 hl1.1, by simp, .inr rfl, ?_⟩
    | refine ⟨_, _, toEntryS_c x1 hl1.1, by simp, .inl rfl, ?_⟩
    | refine callE_pure (toEntryS_c x1 hl1.1) (by simp) (.inr rfl) ?_
    | refine callE_pure (toEntryS_c x1 hl1.1) (by simp) (.inl rfl) ?_
  simp -dsimp -implicitDefEqProofs
  first
    | refine call_lend (PostEntries_spec x0 x1 hl0.1 hl1.1) (by simp) rfl ?_
    | refine call_pure (PostEntries_spec x0 x1 hl0.1 hl1.1) (by simp) rfl ?_
    | refine ⟨_, _, PostEntries_spec x0 x1 hl0.1 hl1.1, by simp, .inr rfl, ?_⟩
    | refine ⟨_, _, PostEntries_spec x0 x1 hl0.1 hl1.1, by simp, .inl rfl, ?_⟩
    | refine callE_pure (PostEntries_spec x0 x1 hl0.1 hl1.1) (by simp) (.inr rfl) ?_
    | refine callE_pure (PostEntries_spec x0 x1 hl0.1 hl1.1) (by simp) (.inl rfl) ?_
  simp -dsimp -implicitDefEqProofs
  first
    | refine call_own (toEntryS_o x0 hl0.1) (by simp ) (by simp [AV.closed, AV.closed1, C.closed]) (by simp [freshO]) ?_
    | refine callE_own (toEntryS_o x0 hl0.1) (by simp ) (by simp [AV.closed, AV.closed1, C.closed]) (by simp [freshO]) ?_
  simp -dsimp -implicitDefEqProofs
  first
    | refine call_own (toEntryS_o x1 hl1.1) (by simp ) (by simp [AV.closed, AV.closed1, C.closed]) (by simp [freshO]) ?_
    | refine callE_own (toEntryS_o x1 hl1.1) (by simp ) (by simp [AV.closed, AV.closed1, C.closed]) (by simp [freshO]) ?_
  simp -dsimp -implicitDefEqProofs
  first
    | refine call_own (PostEntries_impl x0 x1 hl0.1 hl1.1) (by simp [take_full]) (by simp [AV.closed, AV.closed1, C.closed]) (by simp [freshO]) ?_
    | refine callE_own (PostEntries_impl x0 x1 hl0.1 hl1.1) (by simp [take_full]) (by simp [AV.closed, AV.closed1, C.closed]) (by simp [freshO]) ?_
  simp -dsimp -implicitDefEqProofs
  have hrl := PostEntries_len x0 x1
  have hI := PostEntries_implP x0 x1 hl0.1 hl1.1
  generalize PostEntries x0 x1 = r at hrl hI ⊢
  first
    | refine call_lend (eqEntryS_c r.1 r.1) (by simp [take_full]) rfl ?_
    | refine call_pure (eqEntryS_c r.1 r.1) (by simp [take_full]) rfl ?_
    | refine ⟨_, _, eqEntryS_c r.1 r.1, by simp [take_full], .inr rfl, ?_⟩
    | refine ⟨_, _, eqEntryS_c r.1 r.1, by simp [take_full], .inl rfl, ?_⟩
    | refine callE_pure (eqEntryS_c r.1 r.1) (by simp [take_full]) (.inr rfl) ?_
    | refine callE_pure (eqEntryS_c r.1 r.1) (by simp [take_full]) (.inl rfl) ?_
  simp -dsimp -implicitDefEqProofs
  first
    | refine call_lend (toEntryS_c x0 hl0.1) (by simp) rfl ?_
    | refine call_pure (toEntryS_c x0 hl0.1) (by simp) rfl ?_
    | refine ⟨_, _, toEntryS_c x0 hl0.1, by simp, .inr rfl, ?_⟩
    | refine ⟨_, _, toEntryS_c x0 hl0.1, by simp, .inl rfl, ?_⟩
    | refine callE_pure (toEntryS_c x0 hl0.1) (by simp) (.inr rfl) ?_
    | refine callE_pure (toEntryS_c x0 hl0.1) (by simp) (.inl rfl) ?_
  simp -dsimp -implicitDefEqProofs
  first
    | refine call_lend (eqEntryS_c x0 x0) (by simp [take_full]) rfl ?_
    | refine call_pure (eqEntryS_c x0 x0) (by simp [take_full]) rfl ?_
    | refine ⟨_, _, eqEntryS_c x0 x0, by simp [take_full], .inr rfl, ?_⟩
    | refine ⟨_, _, eqEntryS_c x0 x0, by simp [take_full], .inl rfl, ?_⟩
    | refine callE_pure (eqEntryS_c x0 x0) (by simp [take_full]) (.inr rfl) ?_
    | refine callE_pure (eqEntryS_c x0 x0) (by simp [take_full]) (.inl rfl) ?_
  simp -dsimp -implicitDefEqProofs
  first
    | refine call_lend (toEntryS_c x1 hl1.1) (by simp) rfl ?_
    | refine call_pure (toEntryS_c x1 hl1.1) (by simp) rfl ?_
    | refine ⟨_, _, toEntryS_c x1 hl1.1, by simp, .inr rfl, ?_⟩
    | refine ⟨_, _, toEntryS_c x1 hl1.1, by simp, .inl rfl, ?_⟩
    | refine callE_pure (toEntryS_c x1 hl1.1) (by simp) (.inr rfl) ?_
    | refine callE_pure (toEntryS_c x1 hl1.1) (by simp) (.inl rfl) ?_
  simp -dsimp -implicitDefEqProofs
  first
    | refine call_lend (eqEntryS_c x1 x1) (by simp [take_full]) rfl ?_
    | refine call_pure (eqEntryS_c x1 x1) (by simp [take_full]) rfl ?_
    | refine ⟨_, _, eqEntryS_c x1 x1, by simp [take_full], .inr rfl, ?_⟩
    | refine ⟨_, _, eqEntryS_c x1 x1, by simp [take_full], .inl rfl, ?_⟩
    | refine callE_pure (eqEntryS_c x1 x1) (by simp [take_full]) (.inr rfl) ?_
    | refine callE_pure (eqEntryS_c x1 x1) (by simp [take_full]) (.inl rfl) ?_
  simp -dsimp -implicitDefEqProofs
  have q0 := hl0.1
  have q1 := hl1.1
  refine call_in1 (up := some (36, .row 5 (marked mkEn 5 [] 1 x0.length))) (markEntryS_c x0 1 (by omega) (by omega)) (by simp) rfl rfl (ioC_row (rows := x0.map Entry.enc) (by simp) rfl rfl (by simp) (by simp [marked_n]) rfl rfl) ?_
  simp -dsimp -implicitDefEqProofs
  refine call_in1 (up := some (38, .row 5 (marked mkEn 5 [] (1 + 5 * x0.length) x1.length))) (markEntryS_c x1 (1 + 5 * x0.length) (by omega) (by omega)) (by simp) rfl rfl (ioC_row (rows := x1.map Entry.enc) (by simp) rfl rfl (by simp) (by simp [marked_n]) rfl rfl) ?_
  have n1 : (1 + 5 * (x0.length : Int) + 5 * (x1.length : Int) < 0) = False := by simp; omega
  simp -dsimp -implicitDefEqProofs [n1]
  first
    | refine call_lend (eqEntryS_c r.1 r.1) (by simp [take_full]) rfl ?_
    | refine call_pure (eqEntryS_c r.1 r.1) (by simp [take_full]) rfl ?_
    | refine ⟨_, _, eqEntryS_c r.1 r.1, by simp [take_full], .inr rfl, ?_⟩
    | refine ⟨_, _, eqEntryS_c r.1 r.1, by simp [take_full], .inl rfl, ?_⟩
    | refine callE_pure (eqEntryS_c r.1 r.1) (by simp [take_full]) (.inr rfl) ?_
    | refine callE_pure (eqEntryS_c r.1 r.1) (by simp [take_full]) (.inl rfl) ?_
  simp -dsimp -implicitDefEqProofs
  refine call_in1 (up := some (10000042, .row 5 (marked mkEn 5 [] 1 r.1.length))) (markEntryS_c r.1 1 (by omega) (by omega)) (by simp) rfl rfl (ioC_row (rows := r.1.map Entry.enc) (by simp) rfl rfl (by simp) (by simp [marked_n]) rfl rfl) ?_
  simp -dsimp -implicitDefEqProofs
  first
    | refine call_lend (heldEntryS_c r.1.length 1 (by omega) (by omega)) (by simp [take_marked]) rfl ?_
    | refine call_pure (heldEntryS_c r.1.length 1 (by omega) (by omega)) (by simp [take_marked]) rfl ?_
    | refine ⟨_, _, heldEntryS_c r.1.length 1 (by omega) (by omega), by simp [take_marked], .inr rfl, ?_⟩
    | refine ⟨_, _, heldEntryS_c r.1.length 1 (by omega) (by omega), by simp [take_marked], .inl rfl, ?_⟩
    | refine callE_pure (heldEntryS_c r.1.length 1 (by omega) (by omega)) (by simp [take_marked]) (.inr rfl) ?_
    | refine callE_pure (heldEntryS_c r.1.length 1 (by omega) (by omega)) (by simp [take_marked]) (.inl rfl) ?_
  have n2 : (1 + 5 * (r.1.length : Int) < 0) = False := by simp; omega
  simp -dsimp -implicitDefEqProofs [n2]
  first
    | refine call_lend (toEntryS_c x0 hl0.1) (by simp) rfl ?_
    | refine call_pure (toEntryS_c x0 hl0.1) (by simp) rfl ?_
    | refine ⟨_, _, toEntryS_c x0 hl0.1, by simp, .inr rfl, ?_⟩
    | refine ⟨_, _, toEntryS_c x0 hl0.1, by simp, .inl rfl, ?_⟩
    | refine callE_pure (toEntryS_c x0 hl0.1) (by simp) (.inr rfl) ?_
    | refine callE_pure (toEntryS_c x0 hl0.1) (by simp) (.inl rfl) ?_
  simp -dsimp -implicitDefEqProofs
  first
    | refine call_lend (toEntryS_c x1 hl1.1) (by simp) rfl ?_
    | refine call_pure (toEntryS_c x1 hl1.1) (by simp) rfl ?_
    | refine ⟨_, _, toEntryS_c x1 hl1.1, by simp, .inr rfl, ?_⟩
    | refine ⟨_, _, toEntryS_c x1 hl1.1, by simp, .inl rfl, ?_⟩
    | refine callE_pure (toEntryS_c x1 hl1.1) (by simp) (.inr rfl) ?_
    | refine callE_pure (toEntryS_c x1 hl1.1) (by simp) (.inl rfl) ?_
  simp -dsimp -implicitDefEqProofs
  first
    | refine call_lend (hI) (by simp) rfl ?_
    | refine call_pure (hI) (by simp) rfl ?_
    | refine ⟨_, _, hI, by simp, .inr rfl, ?_⟩
    | refine ⟨_, _, hI, by simp, .inl rfl, ?_⟩
    | refine callE_pure (hI) (by simp) (.inr rfl) ?_
    | refine callE_pure (hI) (by simp) (.inl rfl) ?_
  simp -dsimp -implicitDefEqProofs
  first
    | refine call_lend (eqEntryS_c r.1 r.1) (by simp [take_full]) rfl ?_
    | refine call_pure (eqEntryS_c r.1 r.1) (by simp [take_full]) rfl ?_
    | refine ⟨_, _, eqEntryS_c r.1 r.1, by simp [take_full], .inr rfl, ?_⟩
    | refine ⟨_, _, eqEntryS_c r.1 r.1, by simp [take_full], .inl rfl, ?_⟩
    | refine callE_pure (eqEntryS_c r.1 r.1) (by simp [take_full]) (.inr rfl) ?_
    | refine callE_pure (eqEntryS_c r.1 r.1) (by simp [take_full]) (.inl rfl) ?_
  simp -dsimp -implicitDefEqProofs
  first
    | refine call_lend (heldEntryS_c r.1.length 1 (by omega) (by omega)) (by simp [take_marked]) rfl ?_
    | refine call_pure (heldEntryS_c r.1.length 1 (by omega) (by omega)) (by simp [take_marked]) rfl ?_
    | refine ⟨_, _, heldEntryS_c r.1.length 1 (by omega) (by omega), by simp [take_marked], .inr rfl, ?_⟩
    | refine ⟨_, _, heldEntryS_c r.1.length 1 (by omega) (by omega), by simp [take_marked], .inl rfl, ?_⟩
    | refine callE_pure (heldEntryS_c r.1.length 1 (by omega) (by omega)) (by simp [take_marked]) (.inr rfl) ?_
    | refine callE_pure (heldEntryS_c r.1.length 1 (by omega) (by omega)) (by simp [take_marked]) (.inl rfl) ?_
  simp -dsimp -implicitDefEqProofs [n2]

end Go.Proofs.Ytfmgadchjiplmaa
