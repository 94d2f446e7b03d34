/- Contracts of functions of this seat: what each answers, as plain Lean. -/
import Derived.Test.YtfmgadchjiplmaaMT19
set_option linter.all false
namespace Go.Proofs.Ytfmgadchjiplmaa
open Go.RowKit

theorem heldBoatS_c (n : Nat) (k : Int) (h0 : 0 ≤ k) (h1 : k + 6 * n ≤ 8000000000000000000) : PureF Try.prog n_laws_heldBoatS [.c (.sl 6 (marked mkB 6 [] k n)), .c (.i k)] (.c (.i (k + 6 * n))) := by
  refine pure_of h_laws_heldBoatS (by simp) fun hwf => ?_
  simp -dsimp -implicitDefEqProofs [c_laws_heldBoatS]
  refine loop_rule (ι := Nat) (fun i => i ≤ n) (fun i => stOf [(0, .c (.sl 6 (marked mkB 6 [] k n))), (1, .c (.i (k + 6 * i))), (5, .c (.i i))] []) (fun i => n - i) 0 (by simp) (by apply le_of <;> simp [AV.refs1, AV.ref0, Obj.refs1]) ?_
  rintro i hi
  rcases Nat.lt_or_ge i n with hlt | hge
  · have hg := marked_at (mk := mkB) (c := 6) (k := k) hlt
    simp only [mkB] at hg
    simp -dsimp -implicitDefEqProofs [marked_n, lt_t hlt, hg]
    intro hlen
    refine ⟨by unfold inI; omega, by unfold inI; omega, by unfold inI; omega, by unfold inI; omega, by unfold inI; omega, by unfold inI; omega, by unfold inI; omega, i + 1, hlt, by omega, ?_⟩
    apply le_of <;> simp [AV.refs1, AV.ref0, Obj.refs1] <;> omega
  · have : i = n := by omega
    subst this
    simp -dsimp -implicitDefEqProofs [marked_n]
def fBs (k : Int) (r : List Boat) : List C := [.sl 6 (marked mkB 6 [] k r.length)]
theorem shrs_seq {α : Type} {f g : Int → α → List C} {n : α → Nat} (h : ∀ k x, shrl (f k x) = some (g k x)) : ∀ (l : List α) (k : Int), shrs (seqM f n k l) = some (seqM g n k l)
  | [], _ => rfl
  | x :: l, k => by simp [seqM, shrs, h k x, shrs_seq h l]
theorem fB_shr (k : Int) (r : List Boat) : shrl (fB k r) = some (fBs k r) := rfl
theorem heldBoatSS_c (xs : List (List Boat)) (k : Int) (h0 : 0 ≤ k) (h1 : k + cnt nB xs ≤ 8000000000000000000) : PureF Try.prog n_laws_heldBoatSS [.c (.sl 1 (seqM fBs nB k xs)), .c (.i k)] (.c (.i (k + cnt nB xs))) := by
  refine pure_of h_laws_heldBoatSS (by simp) fun hwf => ?_
  simp -dsimp -implicitDefEqProofs [c_laws_heldBoatSS]
  refine loop_rule (ι := Nat) (fun i => i ≤ xs.length) (fun i => stOf [(0, .c (.sl 1 (seqM fBs nB k xs))), (1, .c (.i (k + cntTo nB xs i))), (5, .c (.i i))] []) (fun i => xs.length - i) 0 (by simp) (by apply le_of <;> simp [AV.refs1, AV.ref0, Obj.refs1, cntTo_zero]) ?_
  rintro i hi
  rcases Nat.lt_or_ge i xs.length with hlt | hge
  · obtain ⟨e, he⟩ : ∃ e, xs[i]? = some e := ⟨_, List.getElem?_eq_getElem hlt⟩
    have hg := seqM_at (f := fBs) (n := nB) (k := k) he
    have hc := cntTo_succ (n := nB) he
    have hle := cntTo_le (n := nB) (xs := xs) (i := i + 1)
    have hn : nB e = 6 * e.length := rfl
    simp only [fBs] at hg
    simp -dsimp -implicitDefEqProofs [seqM_len, lt_t hlt, hg]
    intro hlen
    first
      | refine call_lend (heldBoatS_c e.length (k + cntTo nB xs i) (by omega) (by omega)) (by simp) rfl ?_
      | refine call_pure (heldBoatS_c e.length (k + cntTo nB xs i) (by omega) (by omega)) (by simp) rfl ?_
      | refine ⟨_, _, heldBoatS_c e.length (k + cntTo nB xs i) (by omega) (by omega), by simp, .inr rfl, ?_⟩
      | refine ⟨_, _, heldBoatS_c e.length (k + cntTo nB xs i) (by omega) (by omega), by simp, .inl rfl, ?_⟩
      | refine callE_pure (heldBoatS_c e.length (k + cntTo nB xs i) (by omega) (by omega)) (by simp) (.inr rfl) ?_
      | refine callE_pure (heldBoatS_c e.length (k + cntTo nB xs i) (by omega) (by omega)) (by simp) (.inl rfl) ?_
    have n1 : (k + (cntTo nB xs i : Int) + 6 * (e.length : Int) < 0) = False := by simp; omega
    simp -dsimp -implicitDefEqProofs [n1]
    refine ⟨inI_succ hlt hlen, i + 1, hlt, by omega, ?_⟩
    apply le_of <;> simp [AV.refs1, AV.ref0, Obj.refs1] <;> omega
  · have : i = xs.length := by omega
    subst this
    simp -dsimp -implicitDefEqProofs [seqM_len]
    rw [cntTo_all (Nat.le_refl _)]
    intro _; rfl
theorem heldTrain_c (e : Train) (u : Bool) (k : Int) (h0 : 0 ≤ k) (h1 : k + cnt nB e.Rows ≤ 8000000000000000000) : PureF Try.prog n_laws_heldTrain [.agg [.c (.b u), .c (.sl 1 (seqM fBs nB k e.Rows))], .c (.i k)] (.c (.i (k + cnt nB e.Rows))) := by
  refine pure_of h_laws_heldTrain (by simp) fun hwf => ?_
  simp -dsimp -implicitDefEqProofs [c_laws_heldTrain]
  first
    | refine call_lend (heldBoatSS_c e.Rows k h0 h1) (by simp) rfl ?_
    | refine call_pure (heldBoatSS_c e.Rows k h0 h1) (by simp) rfl ?_
    | refine ⟨_, _, heldBoatSS_c e.Rows k h0 h1, by simp, .inr rfl, ?_⟩
    | refine ⟨_, _, heldBoatSS_c e.Rows k h0 h1, by simp, .inl rfl, ?_⟩
    | refine callE_pure (heldBoatSS_c e.Rows k h0 h1) (by simp) (.inr rfl) ?_
    | refine callE_pure (heldBoatSS_c e.Rows k h0 h1) (by simp) (.inl rfl) ?_
  have n1 : (k + (cnt nB e.Rows : Int) < 0) = False := by simp; omega
  simp -dsimp -implicitDefEqProofs [n1]
theorem heldMover_c (e : Mover) (u : Bool) (p : Int) (k : Int) (h0 : 0 ≤ k) (h1 : k + cnt nB e.Train.Rows ≤ 8000000000000000000) : PureF Try.prog n_laws_heldMover [.agg [.c (.b u), .c (.sl 1 (seqM fBs nB k e.Train.Rows)), .c (.i p)], .c (.i k)] (.c (.i (k + cnt nB e.Train.Rows))) := by
  refine pure_of h_laws_heldMover (by simp) fun hwf => ?_
  simp -dsimp -implicitDefEqProofs [c_laws_heldMover]
  first
    | refine call_lend (heldTrain_c e.Train u k h0 h1) (by simp) rfl ?_
    | refine call_pure (heldTrain_c e.Train u k h0 h1) (by simp) rfl ?_
    | refine ⟨_, _, heldTrain_c e.Train u k h0 h1, by simp, .inr rfl, ?_⟩
    | refine ⟨_, _, heldTrain_c e.Train u k h0 h1, by simp, .inl rfl, ?_⟩
    | refine callE_pure (heldTrain_c e.Train u k h0 h1) (by simp) (.inr rfl) ?_
    | refine callE_pure (heldTrain_c e.Train u k h0 h1) (by simp) (.inl rfl) ?_
  have n1 : (k + (cnt nB e.Train.Rows : Int) < 0) = False := by simp; omega
  simp -dsimp -implicitDefEqProofs [n1]
theorem markTrain_c (e : Train) (k : Int) (h0 : 0 ≤ k) (h1 : k + cnt nB e.Rows ≤ 8000000000000000000) :
    InF Try.prog n_laws_markTrain (.agg ([C.b e.Up, ct 1 (e.Rows.map eo_BoatS)].map .c)) (.agg ([C.b e.Up, ct 1 (seqM fB nB k e.Rows)].map .c)) [.c (.i k)] (.c (.i (k + cnt nB e.Rows))) := by
  obtain ⟨u, xs⟩ := e
  have m1 := markBoatSS_c xs k h0 h1
  rcases Nat.eq_zero_or_pos xs.length with hx | hx
  · have : xs = [] := List.length_eq_zero_iff.1 hx
    subst this
    refine in_of h_laws_markTrain (by simp) (by simp) rfl fun hwf => ?_
    simp -dsimp -implicitDefEqProofs [c_laws_markTrain]
    refine call_in1 (up := none) m1 (by simp) rfl rfl (ioC_c rfl) ?_
    simp -dsimp -implicitDefEqProofs [seqM, cnt]
  · have c1 : ct 1 (xs.map eo_BoatS) = .ot 1 (xs.map eo_BoatS) := ct_pos (by simpa using hx)
    have c2 : ct 1 (seqM fB nB k xs) = .ot 1 (seqM fB nB k xs) := ct_pos (by rw [seqM_len]; exact hx)
    refine in_of h_laws_markTrain (by simp) (by simp [c1]) rfl fun hwf => ?_
    simp -dsimp -implicitDefEqProofs [c_laws_markTrain, c1]
    refine call_in1 (up := some (20000, .tr 1 1 (seqM fB nB k xs))) m1 (by simp) rfl rfl (ioC_tr (rows := xs.map eo_BoatS) (by simp) rfl rfl rfl (by simp) (by simp [seqM_len]) rfl rfl) ?_
    have hts : (seqM fB nB k xs).take xs.length = seqM fB nB k xs := List.take_of_length_le (by rw [seqM_len]; exact Nat.le_refl _)
    simp -dsimp -implicitDefEqProofs [c2, hts]
theorem markMover_c (e : Mover) (k : Int) (h0 : 0 ≤ k) (h1 : k + cnt nB e.Train.Rows ≤ 8000000000000000000) :
    InF Try.prog n_laws_markMover (.agg ([C.b e.Train.Up, ct 1 (e.Train.Rows.map eo_BoatS), .i e.Place].map .c)) (.agg ([C.b e.Train.Up, ct 1 (seqM fB nB k e.Train.Rows), .i e.Place].map .c)) [.c (.i k)] (.c (.i (k + cnt nB e.Train.Rows))) := by
  obtain ⟨⟨u, xs⟩, p⟩ := e
  have m1 := markTrain_c ⟨u, xs⟩ k h0 h1
  rcases Nat.eq_zero_or_pos xs.length with hx | hx
  · have : xs = [] := List.length_eq_zero_iff.1 hx
    subst this
    refine in_of h_laws_markMover (by simp) (by simp) rfl fun hwf => ?_
    simp -dsimp -implicitDefEqProofs [c_laws_markMover]
    refine call_inA (ups := [none, none]) m1 (by simp) rfl rfl ⟨ioC_c rfl, ioC_c rfl, trivial⟩ (by simp [upIds]) ?_
    simp -dsimp -implicitDefEqProofs [seqM, cnt]
  · have c1 : ct 1 (xs.map eo_BoatS) = .ot 1 (xs.map eo_BoatS) := ct_pos (by simpa using hx)
    have c2 : ct 1 (seqM fB nB k xs) = .ot 1 (seqM fB nB k xs) := ct_pos (by rw [seqM_len]; exact hx)
    refine in_of h_laws_markMover (by simp) (by simp [c1]) rfl fun hwf => ?_
    simp -dsimp -implicitDefEqProofs [c_laws_markMover, c1]
    refine call_inA (ups := [none, some (20000, .tr 1 1 (seqM fB nB k xs))]) m1 (by simp) rfl rfl ⟨ioC_c rfl, ioC_tr (rows := xs.map eo_BoatS) (by simp) rfl rfl rfl (by simp) (by simp [seqM_len]) rfl rfl, trivial⟩ (by simp [upIds]) ?_
    have hts : (seqM fB nB k xs).take xs.length = seqM fB nB k xs := List.take_of_length_le (by rw [seqM_len]; exact Nat.le_refl _)
    simp -dsimp -implicitDefEqProofs [c2, hts]

end Go.Proofs.Ytfmgadchjiplmaa
