/- What the law FnExactPlacesOf stands on, part 3: contracts of functions, what each answers as plain Lean. -/
import Derived.Test.YtmimbhooaidelaaGreatSExactPlacesOf2
set_option linter.all false
namespace Go.Proofs.YtmimbhooaidelaaGreat
open Go.RowKit
open Go.ChangeShapes Go.WideShapes

@[simp] def Waterway.enc (e : Waterway) : List C := [.i e.Time, .sl 3 (e.Reaches.map Reach.enc), .sl 2 (e.Ways.map Way.enc), .sl 22 (e.Works.map Work.enc), .sl 1 (e.Movers.map enc_MoverS), .sl 2 (e.Arrived.map Train.enc), .sl 1 (e.Entered.map ienc), .i e.Tariff.Base, .i e.Tariff.PerArea, .sl 1 (e.Tariff.PerClass.map ienc), .sl 1 (e.Tariff.Weights.map ienc), .sl 5 (e.Book.map Entry.enc), .sl 4 (e.Passings.map Passing.enc), .i e.Start, .i e.In, .i e.Out]
-- Waterway
def sz_Waterway (e : Waterway) (l : Int) : Int := andSz (sz_ReachS e.Reaches l) fun l => andSz (sz_WayS e.Ways l) fun l => andSz (sz_WorkS e.Works l) fun l => andSz (sz_MoverSS e.Movers l) fun l => andSz (sz_TrainS e.Arrived l) fun l => andSz (sz_IntS e.Entered l) fun l => andSz (sz_Tariff e.Tariff l) fun l => andSz (sz_EntryS e.Book l) fun l => andSz (sz_PassingS e.Passings l) fun l => l
def Waterway.small (e : Waterway) : Prop := small_ReachS e.Reaches ∧ small_WayS e.Ways ∧ small_WorkS e.Works ∧ small_MoverSS e.Movers ∧ small_TrainS e.Arrived ∧ small_IntS e.Entered ∧ e.Tariff.small ∧ small_EntryS e.Book ∧ small_PassingS e.Passings
theorem sz_Waterway_ok : SzOk sz_Waterway Waterway.small := by
  intro e l h0 h1
  unfold sz_Waterway
  rcases sz_ReachS_ok e.Reaches _ h0 h1 with e0 | ⟨a0, b0, s0⟩
  · exact .inl (andSz_neg (by omega))
  rw [andSz_pos a0]
  rcases sz_WayS_ok e.Ways _ a0 (by omega) with e1 | ⟨a1, b1, s1⟩
  · exact .inl (andSz_neg (by omega))
  rw [andSz_pos a1]
  rcases sz_WorkS_ok e.Works _ a1 (by omega) with e2 | ⟨a2, b2, s2⟩
  · exact .inl (andSz_neg (by omega))
  rw [andSz_pos a2]
  rcases sz_MoverSS_ok e.Movers _ a2 (by omega) with e3 | ⟨a3, b3, s3⟩
  · exact .inl (andSz_neg (by omega))
  rw [andSz_pos a3]
  rcases sz_TrainS_ok e.Arrived _ a3 (by omega) with e4 | ⟨a4, b4, s4⟩
  · exact .inl (andSz_neg (by omega))
  rw [andSz_pos a4]
  rcases sz_IntS_ok e.Entered _ a4 (by omega) with e5 | ⟨a5, b5, s5⟩
  · exact .inl (andSz_neg (by omega))
  rw [andSz_pos a5]
  rcases sz_Tariff_ok e.Tariff _ a5 (by omega) with e6 | ⟨a6, b6, s6⟩
  · exact .inl (andSz_neg (by omega))
  rw [andSz_pos a6]
  rcases sz_EntryS_ok e.Book _ a6 (by omega) with e7 | ⟨a7, b7, s7⟩
  · exact .inl (andSz_neg (by omega))
  rw [andSz_pos a7]
  rcases sz_PassingS_ok e.Passings _ a7 (by omega) with e8 | ⟨a8, b8, s8⟩
  · exact .inl (andSz_neg (by omega))
  rw [andSz_pos a8]
  exact .inr ⟨a8, by omega, s0, s1, s2, s3, s4, s5, s6, s7, s8⟩
theorem sz_Waterway_c (e : Waterway) (l : Int) (h0 : 0 ≤ l) (h1 : l ≤ 1048576) : PureF Tryz.prog n_laws_szWaterway [.agg (e.enc.map .c), .c (.i l)] (.c (.i (sz_Waterway e l))) := by
  refine pure_of h_laws_szWaterway (by simp) fun hwf => ?_
  simp -dsimp -implicitDefEqProofs [c_laws_szWaterway]
  refine call_lend (sz_ReachS_c e.Reaches _ h0 h1) (by simp) rfl ?_
  simp -dsimp -implicitDefEqProofs
  refine ⟨fun h => by simp [sz_Waterway, andSz_neg h], fun p0 => ?_⟩
  have q0 := sz_le sz_ReachS_ok e.Reaches h0 h1 p0
  refine call_lend (sz_WayS_c e.Ways _ p0 q0) (by simp) rfl ?_
  simp -dsimp -implicitDefEqProofs
  refine ⟨fun h => by simp [sz_Waterway, andSz_pos p0, andSz_neg h], fun p1 => ?_⟩
  have q1 := sz_le sz_WayS_ok e.Ways p0 q0 p1
  refine call_lend (sz_WorkS_c e.Works _ p1 q1) (by simp) rfl ?_
  simp -dsimp -implicitDefEqProofs
  refine ⟨fun h => by simp [sz_Waterway, andSz_pos p0, andSz_pos p1, andSz_neg h], fun p2 => ?_⟩
  have q2 := sz_le sz_WorkS_ok e.Works p1 q1 p2
  refine call_lend (sz_MoverSS_c e.Movers _ p2 q2) (by simp) rfl ?_
  simp -dsimp -implicitDefEqProofs
  refine ⟨fun h => by simp [sz_Waterway, andSz_pos p0, andSz_pos p1, andSz_pos p2, andSz_neg h], fun p3 => ?_⟩
  have q3 := sz_le sz_MoverSS_ok e.Movers p2 q2 p3
  refine call_lend (sz_TrainS_c e.Arrived _ p3 q3) (by simp) rfl ?_
  simp -dsimp -implicitDefEqProofs
  refine ⟨fun h => by simp [sz_Waterway, andSz_pos p0, andSz_pos p1, andSz_pos p2, andSz_pos p3, andSz_neg h], fun p4 => ?_⟩
  have q4 := sz_le sz_TrainS_ok e.Arrived p3 q3 p4
  refine call_lend (sz_IntS_c e.Entered _ p4 q4) (by simp) rfl ?_
  simp -dsimp -implicitDefEqProofs
  refine ⟨fun h => by simp [sz_Waterway, andSz_pos p0, andSz_pos p1, andSz_pos p2, andSz_pos p3, andSz_pos p4, andSz_neg h], fun p5 => ?_⟩
  have q5 := sz_le sz_IntS_ok e.Entered p4 q4 p5
  refine call_lend (sz_Tariff_c e.Tariff _ p5 q5) (by simp) rfl ?_
  simp -dsimp -implicitDefEqProofs
  refine ⟨fun h => by simp [sz_Waterway, andSz_pos p0, andSz_pos p1, andSz_pos p2, andSz_pos p3, andSz_pos p4, andSz_pos p5, andSz_neg h], fun p6 => ?_⟩
  have q6 := sz_le sz_Tariff_ok e.Tariff p5 q5 p6
  refine call_lend (sz_EntryS_c e.Book _ p6 q6) (by simp) rfl ?_
  simp -dsimp -implicitDefEqProofs
  refine ⟨fun h => by simp [sz_Waterway, andSz_pos p0, andSz_pos p1, andSz_pos p2, andSz_pos p3, andSz_pos p4, andSz_pos p5, andSz_pos p6, andSz_neg h], fun p7 => ?_⟩
  have q7 := sz_le sz_EntryS_ok e.Book p6 q6 p7
  refine call_lend (sz_PassingS_c e.Passings _ p7 q7) (by simp) rfl ?_
  simp -dsimp -implicitDefEqProofs
  refine ⟨fun h => by simp [sz_Waterway, andSz_pos p0, andSz_pos p1, andSz_pos p2, andSz_pos p3, andSz_pos p4, andSz_pos p5, andSz_pos p6, andSz_pos p7, andSz_neg h], fun p8 => ?_⟩
  simp [sz_Waterway, andSz_pos p0, andSz_pos p1, andSz_pos p2, andSz_pos p3, andSz_pos p4, andSz_pos p5, andSz_pos p6, andSz_pos p7, andSz_pos p8]
theorem toWaterway_c (e : Waterway) (hl : Waterway.small e) : PureF Tryz.prog n_laws_toWaterway [.agg (e.enc.map .c)] (.agg (e.enc.map .c)) := by
  refine pure_of h_laws_toWaterway (by simp) fun hwf => ?_
  simp -dsimp -implicitDefEqProofs [c_laws_toWaterway]
  first
    | refine call_pure (toReachS_c e.Reaches (hl.1)) (by simp) rfl ?_
    | refine ⟨_, _, toReachS_c e.Reaches (hl.1), by simp, .inl rfl, ?_⟩
  simp -dsimp -implicitDefEqProofs
  first
    | refine call_pure (toWayS_c e.Ways (hl.2.1)) (by simp) rfl ?_
    | refine ⟨_, _, toWayS_c e.Ways (hl.2.1), by simp, .inl rfl, ?_⟩
  simp -dsimp -implicitDefEqProofs
  first
    | refine call_pure (toWorkS_c e.Works (hl.2.2.1)) (by simp) rfl ?_
    | refine ⟨_, _, toWorkS_c e.Works (hl.2.2.1), by simp, .inl rfl, ?_⟩
  simp -dsimp -implicitDefEqProofs
  first
    | refine call_pure (toMoverSS_c e.Movers (hl.2.2.2.1)) (by simp) rfl ?_
    | refine ⟨_, _, toMoverSS_c e.Movers (hl.2.2.2.1), by simp, .inl rfl, ?_⟩
  simp -dsimp -implicitDefEqProofs
  first
    | refine call_pure (toTrainS_c e.Arrived (hl.2.2.2.2.1)) (by simp) rfl ?_
    | refine ⟨_, _, toTrainS_c e.Arrived (hl.2.2.2.2.1), by simp, .inl rfl, ?_⟩
  simp -dsimp -implicitDefEqProofs
  first
    | refine call_pure (toIntS_c e.Entered (hl.2.2.2.2.2.1.1)) (by simp) rfl ?_
    | refine ⟨_, _, toIntS_c e.Entered (hl.2.2.2.2.2.1.1), by simp, .inl rfl, ?_⟩
  simp -dsimp -implicitDefEqProofs
  first
    | refine call_pure (toTariff_c e.Tariff (hl.2.2.2.2.2.2.1)) (by simp) rfl ?_
    | refine ⟨_, _, toTariff_c e.Tariff (hl.2.2.2.2.2.2.1), by simp, .inl rfl, ?_⟩
  simp -dsimp -implicitDefEqProofs
  first
    | refine call_pure (toEntryS_c e.Book (hl.2.2.2.2.2.2.2.1.1)) (by simp) rfl ?_
    | refine ⟨_, _, toEntryS_c e.Book (hl.2.2.2.2.2.2.2.1.1), by simp, .inl rfl, ?_⟩
  simp -dsimp -implicitDefEqProofs
  first
    | refine call_pure (toPassingS_c e.Passings (hl.2.2.2.2.2.2.2.2)) (by simp) rfl ?_
    | refine ⟨_, _, toPassingS_c e.Passings (hl.2.2.2.2.2.2.2.2), by simp, .inl rfl, ?_⟩
  simp -dsimp -implicitDefEqProofs
theorem eqWaterway_c (a b : Waterway) : PureF Tryz.prog n_laws_eqWaterway [.agg (a.enc.map .c), .agg (b.enc.map .c)] (.c (.b (decide (a = b)))) := by
  refine pure_of h_laws_eqWaterway (by simp) fun hwf => ?_
  obtain ⟨a0, a1, a2, a3, a4, a5, a6, a7, a8, a9, a10, a11, a12⟩ := a
  obtain ⟨b0, b1, b2, b3, b4, b5, b6, b7, b8, b9, b10, b11, b12⟩ := b
  simp -dsimp -implicitDefEqProofs [c_laws_eqWaterway, Waterway.mk.injEq]
  refine ⟨fun h => by simp_all, fun h0 => ?_⟩
  first
    | refine call_lend (eqReachS_c a1 b1) (by simp) rfl ?_
    | refine ⟨_, _, eqReachS_c a1 b1, by simp, .inr rfl, ?_⟩
  simp -dsimp -implicitDefEqProofs
  refine ⟨fun h => by simp_all, fun h1 => ?_⟩
  first
    | refine call_lend (eqWayS_c a2 b2) (by simp) rfl ?_
    | refine ⟨_, _, eqWayS_c a2 b2, by simp, .inr rfl, ?_⟩
  simp -dsimp -implicitDefEqProofs
  refine ⟨fun h => by simp_all, fun h2 => ?_⟩
  first
    | refine call_lend (eqWorkS_c a3 b3) (by simp) rfl ?_
    | refine ⟨_, _, eqWorkS_c a3 b3, by simp, .inr rfl, ?_⟩
  simp -dsimp -implicitDefEqProofs
  refine ⟨fun h => by simp_all, fun h3 => ?_⟩
  first
    | refine call_lend (eqMoverSS_c a4 b4) (by simp) rfl ?_
    | refine ⟨_, _, eqMoverSS_c a4 b4, by simp, .inr rfl, ?_⟩
  simp -dsimp -implicitDefEqProofs
  refine ⟨fun h => by simp_all, fun h4 => ?_⟩
  first
    | refine call_lend (eqTrainS_c a5 b5) (by simp) rfl ?_
    | refine ⟨_, _, eqTrainS_c a5 b5, by simp, .inr rfl, ?_⟩
  simp -dsimp -implicitDefEqProofs
  refine ⟨fun h => by simp_all, fun h5 => ?_⟩
  first
    | refine call_lend (eqIntS_c a6 b6) (by simp) rfl ?_
    | refine ⟨_, _, eqIntS_c a6 b6, by simp, .inr rfl, ?_⟩
  simp -dsimp -implicitDefEqProofs
  refine ⟨fun h => by simp_all, fun h6 => ?_⟩
  first
    | refine call_lend (eqTariff_c a7 b7) (by simp) rfl ?_
    | refine ⟨_, _, eqTariff_c a7 b7, by simp, .inr rfl, ?_⟩
  simp -dsimp -implicitDefEqProofs
  refine ⟨fun h => by simp_all, fun h7 => ?_⟩
  first
    | refine call_lend (eqEntryS_c a8 b8) (by simp) rfl ?_
    | refine ⟨_, _, eqEntryS_c a8 b8, by simp, .inr rfl, ?_⟩
  simp -dsimp -implicitDefEqProofs
  refine ⟨fun h => by simp_all, fun h8 => ?_⟩
  first
    | refine call_lend (eqPassingS_c a9 b9) (by simp) rfl ?_
    | refine ⟨_, _, eqPassingS_c a9 b9, by simp, .inr rfl, ?_⟩
  simp -dsimp -implicitDefEqProofs
  refine ⟨fun h => by simp_all, fun h9 => ?_⟩
  refine ⟨fun h => by simp_all, fun h10 => ?_⟩
  refine ⟨fun h => by simp_all, fun h11 => ?_⟩
  refine ⟨fun h => by simp_all, fun h12 => ?_⟩
  simp_all
theorem toEntryS_o (es : List Entry) (hl : es.length ≤ 1048576) : OwnF Tryz.prog n_laws_toEntryS [.c (.sl 5 (es.map Entry.enc))] (.c (.ow 5 (es.map Entry.enc))) := by
  refine own_of h_laws_toEntryS (by simp) fun hwf => ?_
  simp -dsimp -implicitDefEqProofs [c_laws_toEntryS]
  intro hlen
  refine ⟨by omega, ?_⟩
  refine loop_rule (ι := Nat) (fun k => k ≤ es.length) (fun k => stOf [(0, .c (.sl 5 (es.map Entry.enc))), (3, .own 7 5 es.length), (4, .c (.i k))] [(7, .row 5 (partly Entry.enc [.i 0, .i 0, .i 0, .i 0, .i 0] es k))]) (fun k => es.length - k) 0 (by simp) (by apply le_of <;> simp [AV.refs1, AV.ref0, Obj.refs1, partly_zero]) ?_
  rintro k hk
  rcases Nat.lt_or_ge k es.length with hlt | hge
  · obtain ⟨e, he⟩ : ∃ e, es[k]? = some e := ⟨_, List.getElem?_eq_getElem hlt⟩
    have hs := partly_set (f := Entry.enc) (z := [.i 0, .i 0, .i 0, .i 0, .i 0]) he
    have hd := partly_drop (f := Entry.enc) (z := [.i 0, .i 0, .i 0, .i 0, .i 0]) (n := 5) rfl hlt
    simp only [Entry.enc] at hs
    simp -dsimp -implicitDefEqProofs [he, lt_t hlt]
    refine fun _ => call_pure (toEntry_c e) (by simp) rfl ?_
    simp -dsimp -implicitDefEqProofs [lt_t hlt, partly_len hk, hd, hs]
    exact ⟨hlt, inI_succ hlt hlen, k + 1, hlt, by omega, by apply le_of <;> simp [AV.refs1, AV.ref0, Obj.refs1]⟩
  · simp -dsimp -implicitDefEqProofs [lt_f hge]
    intro _
    rw [partly_all hge, List.take_of_length_le (by simp)]
def mkEn (k : Int) : List C := [.i k, .i (k + 1), .i (k + 1 + 1), .i (k + 1 + 1 + 1), .i (k + 1 + 1 + 1 + 1)]
theorem markEntryS_c (xs : List Entry) (k : Int) (h0 : 0 ≤ k) (h1 : k + 5 * xs.length ≤ 4611686018427387904) :
    InF Tryz.prog n_laws_markEntryS (.c (cw 5 (xs.map Entry.enc))) (.c (cw 5 (marked mkEn 5 [] k xs.length))) [.c (.i k)] (.c (.i (k + 5 * xs.length))) := by
  rcases Nat.eq_zero_or_pos xs.length with hx | hx
  · have : xs = [] := List.length_eq_zero_iff.1 hx
    subst this
    refine in_of h_laws_markEntryS (by simp) (by simp) rfl fun hwf => ?_
    simp -dsimp -implicitDefEqProofs [c_laws_markEntryS, marked]
    refine loop_rule (ι := Unit) (fun _ => True) (fun _ => stOf [(0, .c (.sl 5 [])), (1, .c (.i k)), (5, .c (.i 0)), (1000000, .c (.sl 5 []))] []) (fun _ => 0) () trivial (by apply le_of <;> simp [AV.refs1, AV.ref0, Obj.refs1]) ?_
    rintro _ _
    simp -dsimp -implicitDefEqProofs
  · rw [cw_pos (by simpa using hx), cw_pos (by rw [marked_n]; exact hx)]
    refine in_of h_laws_markEntryS (by simp) (by simp) rfl fun hwf => ?_
    simp -dsimp -implicitDefEqProofs [c_laws_markEntryS]
    refine loop_rule (ι := Nat) (fun i => i ≤ xs.length) (fun i => stOf [(0, .own 0 5 xs.length), (1, .c (.i (k + 5 * i))), (5, .c (.i i)), (1000000, .own 0 5 xs.length)] [(0, .row 5 (marked mkEn 5 (xs.map Entry.enc) k i))]) (fun i => xs.length - i) 0 (by simp) (by apply le_of <;> simp [AV.refs1, AV.ref0, Obj.refs1, marked_zero]) ?_
    rintro i hi
    rcases Nat.lt_or_ge i xs.length with hlt | hge
    · obtain ⟨e, he⟩ : ∃ e, xs[i]? = some e := ⟨_, List.getElem?_eq_getElem hlt⟩
      have hg := marked_get (mk := mkEn) (c := 5) (k := k) (rows := xs.map Entry.enc) (i := i) (r := e.enc) (by simp [he])
      have hl := marked_len (mk := mkEn) (c := 5) (k := k) (rows := xs.map Entry.enc) (i := i) (by simpa using hi)
      have hs := marked_set (mk := mkEn) (c := 5) (k := k) (rows := xs.map Entry.enc) (i := i) (by simpa using hlt)
      rw [List.length_map] at hl
      generalize marked mkEn 5 (xs.map Entry.enc) k i = M at *
      have hlt2 : i < M.length := by omega
      have hself : ∀ a, (M.set i a)[i]? = some a := fun a => List.getElem?_set_self hlt2
      simp only [mkEn] at hs
      simp only [Entry.enc] at hg
      simp -dsimp -implicitDefEqProofs [lt_t hlt, hg, hl, hlt2, hself]
      intro hlen
      refine ⟨hlt, by unfold inI; omega, hlt, by unfold inI; omega, hlt, by unfold inI; omega, hlt, by unfold inI; omega, hlt, by unfold inI; omega, by unfold inI; omega, i + 1, hlt, by omega, ?_⟩
      apply le_of <;> simp [AV.refs1, AV.ref0, Obj.refs1, hs, hself] <;> omega
    · have : i = xs.length := by omega
      subst this
      simp -dsimp -implicitDefEqProofs
      intro _
      have e := marked_all (mk := mkEn) (c := 5) (rows := xs.map Entry.enc) (k := k) (i := xs.length) (by simp)
      rw [e, List.length_map, List.take_of_length_le (by rw [marked_n]; exact Nat.le_refl _)]
@[simp] def Tariff.oenc (e : Tariff) : List C := [.i e.Base, .i e.PerArea, .ow 1 (e.PerClass.map ienc), .ow 1 (e.Weights.map ienc)]
theorem toTariff_o (e : Tariff) (hl : e.small) : OwnF Tryz.prog n_laws_toTariff [.agg (e.enc.map .c)] (.agg (e.oenc.map .c)) := by
  refine own_of h_laws_toTariff (by simp) fun hwf => ?_
  simp -dsimp -implicitDefEqProofs [c_laws_toTariff]
  first
    | refine call_own (toIntS_o e.PerClass hl.1) (by simp ) (by simp [AV.closed, AV.closed1, C.closed]) (by simp [freshO]) ?_
    | refine callE_own (toIntS_o e.PerClass hl.1) (by simp ) (by simp [AV.closed, AV.closed1, C.closed]) (by simp [freshO]) ?_
  simp -dsimp -implicitDefEqProofs [take_full]
  first
    | refine call_own (toIntS_o e.Weights hl.2) (by simp ) (by simp [AV.closed, AV.closed1, C.closed]) (by simp [freshO]) ?_
    | refine callE_own (toIntS_o e.Weights hl.2) (by simp ) (by simp [AV.closed, AV.closed1, C.closed]) (by simp [freshO]) ?_
  simp -dsimp -implicitDefEqProofs [take_full]
def nT (e : Tariff) : Int := e.PerClass.length + e.Weights.length
def markTariff_x (e : Tariff) (k : Int) : List C := [.i e.Base, .i e.PerArea, cw 1 (marked ienc 1 [] k e.PerClass.length), cw 1 (marked ienc 1 [] (k + e.PerClass.length) e.Weights.length)]
def Tariff.cenc (e : Tariff) : List C := [.i e.Base, .i e.PerArea, cw 1 (e.PerClass.map ienc), cw 1 (e.Weights.map ienc)]
theorem markTariff_c (e : Tariff) (k : Int) (h0 : 0 ≤ k) (h1 : k + nT e ≤ 8000000000000000000) :
    InF Tryz.prog n_laws_markTariff (.agg (e.cenc.map .c)) (.agg ((markTariff_x e k).map .c)) [.c (.i k)] (.c (.i (k + nT e))) := by
  obtain ⟨ba, pa, p, q⟩ := e
  simp only [nT] at h1
  have hp : p.length = 0 ∨ 0 < p.length := by omega
  have hq : q.length = 0 ∨ 0 < q.length := by omega
  rcases hp with hp | hp <;> rcases hq with hq | hq
  · skip
    have : p = [] := List.length_eq_zero_iff.1 hp
    subst this
    have : q = [] := List.length_eq_zero_iff.1 hq
    subst this
    have m1 := markIntS_c [] k h0 (by first | omega | (simp at h1; omega) | (simp at h1 ⊢; omega))
    have m2 := markIntS_c [] k (by omega) (by first | omega | (simp at h1; omega) | (simp at h1 ⊢; omega))
    refine in_of h_laws_markTariff (by simp) (by simp [Tariff.cenc, marked]) rfl fun hwf => ?_
    simp -dsimp -implicitDefEqProofs [c_laws_markTariff, Tariff.cenc]
    refine call_in1 (up := none) m1 (by simp) rfl rfl (ioC_c rfl) ?_
    simp -dsimp -implicitDefEqProofs
    refine call_in1 (up := none) m2 (by simp) rfl rfl (ioC_c rfl) ?_
    simp -dsimp -implicitDefEqProofs [markTariff_x, nT, marked_n, take_marked]
    first | rfl | omega
  · skip
    have : p = [] := List.length_eq_zero_iff.1 hp
    subst this
    have m1 := markIntS_c [] k h0 (by first | omega | (simp at h1; omega) | (simp at h1 ⊢; omega))
    have m2 := markIntS_c q k (by omega) (by first | omega | (simp at h1; omega) | (simp at h1 ⊢; omega))
    have d0 := cw_pos (k := 1) (rows := q.map ienc) (by simpa using hq)
    have d1 := cw_pos (k := 1) (rows := marked ienc 1 [] k q.length) (by rw [marked_n]; exact hq)
    refine in_of h_laws_markTariff (by simp) (by simp [Tariff.cenc, marked, d0, d1]) rfl fun hwf => ?_
    simp -dsimp -implicitDefEqProofs [c_laws_markTariff, Tariff.cenc, d0, d1]
    refine call_in1 (up := none) m1 (by simp) rfl rfl (ioC_c rfl) ?_
    simp -dsimp -implicitDefEqProofs
    refine call_in1 (up := some (40000, .row 1 (marked ienc 1 [] k q.length))) m2 (by simp) rfl rfl (ioC_row (rows := q.map ienc) (by simp) rfl rfl (by simp) (by simp [marked_n]) rfl rfl) ?_
    simp -dsimp -implicitDefEqProofs [markTariff_x, nT, marked_n, take_marked, d0, d1]
    first | rfl | omega
  · skip
    have : q = [] := List.length_eq_zero_iff.1 hq
    subst this
    have m1 := markIntS_c p k h0 (by first | omega | (simp at h1; omega) | (simp at h1 ⊢; omega))
    have m2 := markIntS_c [] (k + p.length) (by omega) (by first | omega | (simp at h1; omega) | (simp at h1 ⊢; omega))
    have c0 := cw_pos (k := 1) (rows := p.map ienc) (by simpa using hp)
    have c1 := cw_pos (k := 1) (rows := marked ienc 1 [] k p.length) (by rw [marked_n]; exact hp)
    refine in_of h_laws_markTariff (by simp) (by simp [Tariff.cenc, marked, c0, c1]) rfl fun hwf => ?_
    simp -dsimp -implicitDefEqProofs [c_laws_markTariff, Tariff.cenc, c0, c1]
    refine call_in1 (up := some (30000, .row 1 (marked ienc 1 [] k p.length))) m1 (by simp) rfl rfl (ioC_row (rows := p.map ienc) (by simp) rfl rfl (by simp) (by simp [marked_n]) rfl rfl) ?_
    simp -dsimp -implicitDefEqProofs
    refine call_in1 (up := none) m2 (by simp) rfl rfl (ioC_c rfl) ?_
    simp -dsimp -implicitDefEqProofs [markTariff_x, nT, marked_n, take_marked, c0, c1]
    first | rfl | omega
  · skip
    have m1 := markIntS_c p k h0 (by first | omega | (simp at h1; omega) | (simp at h1 ⊢; omega))
    have m2 := markIntS_c q (k + p.length) (by omega) (by first | omega | (simp at h1; omega) | (simp at h1 ⊢; omega))
    have c0 := cw_pos (k := 1) (rows := p.map ienc) (by simpa using hp)
    have c1 := cw_pos (k := 1) (rows := marked ienc 1 [] k p.length) (by rw [marked_n]; exact hp)
    have d0 := cw_pos (k := 1) (rows := q.map ienc) (by simpa using hq)
    have d1 := cw_pos (k := 1) (rows := marked ienc 1 [] (k + p.length) q.length) (by rw [marked_n]; exact hq)
    refine in_of h_laws_markTariff (by simp) (by simp [Tariff.cenc, marked, c0, c1, d0, d1]) rfl fun hwf => ?_
    simp -dsimp -implicitDefEqProofs [c_laws_markTariff, Tariff.cenc, c0, c1, d0, d1]
    refine call_in1 (up := some (30000, .row 1 (marked ienc 1 [] k p.length))) m1 (by simp) rfl rfl (ioC_row (rows := p.map ienc) (by simp) rfl rfl (by simp) (by simp [marked_n]) rfl rfl) ?_
    simp -dsimp -implicitDefEqProofs
    refine call_in1 (up := some (40000, .row 1 (marked ienc 1 [] (k + p.length) q.length))) m2 (by simp) rfl rfl (ioC_row (rows := q.map ienc) (by simp) rfl rfl (by simp) (by simp [marked_n]) rfl rfl) ?_
    simp -dsimp -implicitDefEqProofs [markTariff_x, nT, marked_n, take_marked, c0, c1, d0, d1]
    first | rfl | omega
theorem cl_map {α : Type} {f : α → List C} (h : ∀ x, ∀ c ∈ f x, c.closed) (k : Nat) (l : List α) : (C.ot k (l.map f)).closed := by
  simp only [C.closed, List.mem_map]
  rintro r ⟨x, _, rfl⟩ c hc
  exact h x c hc
theorem cl_agg {l : List C} (h : ∀ c ∈ l, c.closed) : (AV.agg (l.map .c)).closed := by
  show ∀ c, c ∈ AV.cs (l.map AV.c) → c.closed
  rw [cs_map]; exact h
theorem tm_in {k : Int} (h : 0 ≤ k) : inI (k.tmod 3) := by
  have := Int.tmod_nonneg 3 h
  have := Int.tmod_lt_of_pos k (b := 3) (by omega)
  unfold inI; omega
theorem eo_BoatS_cl (xs : List Boat) : ∀ c ∈ eo_BoatS xs, c.closed := by simp [eo_BoatS, C.closed]
theorem Train.oenc_cl (e : Train) : ∀ c ∈ e.oenc, c.closed := by
  simp only [Train.oenc, List.mem_cons, List.not_mem_nil, or_false, forall_eq_or_imp, forall_eq]
  exact ⟨by simp [C.closed], cl_map eo_BoatS_cl _ _⟩
theorem Mover.oenc_cl (e : Mover) : ∀ c ∈ e.oenc, c.closed := by
  simp only [Mover.oenc, List.mem_cons, List.not_mem_nil, or_false, forall_eq_or_imp, forall_eq]
  exact ⟨by simp [C.closed], cl_map eo_BoatS_cl _ _, by simp [C.closed]⟩
theorem Reach.oenc_cl (e : Reach) : ∀ c ∈ e.oenc, c.closed := by
  simp only [Reach.oenc, List.mem_cons, List.not_mem_nil, or_false, forall_eq_or_imp, forall_eq]
  exact ⟨by simp [C.closed], by simp [C.closed], by simp [C.closed]⟩
theorem Tariff.oenc_cl (e : Tariff) : ∀ c ∈ e.oenc, c.closed := by
  simp only [Tariff.oenc, List.mem_cons, List.not_mem_nil, or_false, forall_eq_or_imp, forall_eq]
  exact ⟨by simp [C.closed], by simp [C.closed], by simp [C.closed], by simp [C.closed]⟩
theorem toReachS_o (xs : List Reach) (hl : small_ReachS xs) : OwnF Tryz.prog n_laws_toReachS [.c (.sl 3 (xs.map Reach.enc))] (.c (.ot 3 (xs.map Reach.oenc))) := by
  refine own_of h_laws_toReachS (by simp) fun hwf => ?_
  simp -dsimp -implicitDefEqProofs [c_laws_toReachS]
  intro hlen
  have hl1 := hl.1
  refine ⟨by omega, ?_⟩
  refine loop_rule (ι := Nat) (fun k => k ≤ xs.length) (fun k => stOf [(0, .c (.sl 3 (xs.map Reach.enc))), (3, .own 7 3 xs.length), (4, .c (.i k))] [(7, .tr 3 0 (partly Reach.oenc [.sl 2 [], .i 0, .sl 1 []] xs k))]) (fun k => xs.length - k) 0 (by simp) (by apply le_of <;> simp [AV.refs1, AV.ref0, Obj.refs1, partly_zero, Obj.leO]) ?_
  rintro k hk
  rcases Nat.lt_or_ge k xs.length with hlt | hge
  · obtain ⟨e, he⟩ : ∃ e, xs[k]? = some e := ⟨_, List.getElem?_eq_getElem hlt⟩
    have hs := partly_set (f := Reach.oenc) (z := [.sl 2 [], .i 0, .sl 1 []]) he
    have hd := partly_drop (f := Reach.oenc) (z := [.sl 2 [], .i 0, .sl 1 []]) (n := 3) rfl hlt
    simp only [Reach.oenc] at hs
    simp -dsimp -implicitDefEqProofs [he, lt_t hlt]
    intro _
    refine call_own (toReach_o e (hl.2 e (List.mem_of_getElem? he))) (by simp) (cl_agg (Reach.oenc_cl _)) (by simp [freshO]) ?_
    simp -dsimp -implicitDefEqProofs [lt_t hlt, partly_len hk, take_full, hd, hs]
    exact ⟨hlt, inI_succ hlt hlen, k + 1, hlt, by omega, by apply le_of <;> simp [AV.refs1, AV.ref0, Obj.refs1, Obj.leO]⟩
  · simp -dsimp -implicitDefEqProofs [lt_f hge]
    intro _
    rw [partly_all hge, take_full]
def nk_Reach (e : Reach) : Nat := 2 * e.Table.length + 1 + e.Pipe.length
def fk_Reach (k : Int) (e : Reach) : List C := [.ow 2 (marked mkP 2 [] k e.Table.length), .i (k + 2 * (e.Table.length : Int)), .ow 1 (marked ienc 1 [] (k + 2 * (e.Table.length : Int) + 1) e.Pipe.length)]
theorem markReachS_c (xs : List Reach) (k : Int) (h0 : 0 ≤ k) (h1 : k + cnt nk_Reach xs ≤ 8000000000000000000) :
    InF Tryz.prog n_laws_markReachS (.c (ct 3 (xs.map Reach.oenc))) (.c (ct 3 (seqM fk_Reach nk_Reach k xs))) [.c (.i k)] (.c (.i (k + cnt nk_Reach xs))) := by
  rcases Nat.eq_zero_or_pos xs.length with hx | hx
  · have : xs = [] := List.length_eq_zero_iff.1 hx
    subst this
    refine in_of h_laws_markReachS (by simp) (by simp) rfl fun hwf => ?_
    simp -dsimp -implicitDefEqProofs [c_laws_markReachS, seqM, cnt]
    refine loop_rule (ι := Unit) (fun _ => True) (fun _ => stOf [(0, .c (.sl 3 [])), (1, .c (.i k)), (5, .c (.i 0)), (1000000, .c (.sl 3 []))] []) (fun _ => 0) () trivial (by apply le_of <;> simp [AV.refs1, AV.ref0, Obj.refs1]) ?_
    rintro _ _
    simp -dsimp -implicitDefEqProofs
  · rw [ct_pos (by simpa using hx), ct_pos (by rw [seqM_len]; exact hx)]
    refine in_of h_laws_markReachS (by simp) (by simp) rfl fun hwf => ?_
    simp -dsimp -implicitDefEqProofs [c_laws_markReachS]
    refine loop_rule (ι := Nat) (fun i => i ≤ xs.length) (fun i => stOf [(0, .own 0 3 xs.length), (1, .c (.i (k + cntTo nk_Reach xs i))), (5, .c (.i i)), (1000000, .own 0 3 xs.length)] [(0, .tr 3 0 (seqTo fk_Reach Reach.oenc nk_Reach k xs i))]) (fun i => xs.length - i) 0 (by simp) (by apply le_of <;> simp [AV.refs1, AV.ref0, Obj.refs1, seqTo_zero, cntTo_zero, Obj.leO]) ?_
    rintro i hi
    rcases Nat.lt_or_ge i xs.length with hlt | hge
    · obtain ⟨e, he⟩ : ∃ e, xs[i]? = some e := ⟨_, List.getElem?_eq_getElem hlt⟩
      have hg := seqTo_get (f := fk_Reach) (g := Reach.oenc) (n := nk_Reach) (k := k) he
      have hl := seqTo_len (f := fk_Reach) (g := Reach.oenc) (n := nk_Reach) (k := k) (xs := xs) (i := i)
      have hs := seqTo_set (f := fk_Reach) (g := Reach.oenc) (n := nk_Reach) (k := k) he
      have hc := cntTo_succ (n := nk_Reach) he
      have hle := cntTo_le (n := nk_Reach) (xs := xs) (i := i + 1)
      have hn : nk_Reach e = 2 * e.Table.length + 1 + e.Pipe.length := rfl
      generalize hM : seqTo fk_Reach Reach.oenc nk_Reach k xs i = M at *
      generalize hK : (k + (cntTo nk_Reach xs i : Int)) = K at *
      have hlt2 : i < M.length := by omega
      have g1 : M[i] = Reach.oenc e := (List.getElem?_eq_some_iff.1 hg).2
      have hself : ∀ a, (M.set i a)[i]? = some a := fun a => List.getElem?_set_self hlt2
      have hgetD : ∀ a, (M.set i a)[i]?.getD [] = a := fun a => by rw [hself]; rfl
      simp only [Reach.oenc] at hg g1
      have hk : 0 ≤ K := by omega
      simp -dsimp -implicitDefEqProofs [lt_t hlt, hg, hl, hlt2, g1, hself, setAt]
      intro hlen
      repeat (refine ⟨by first | exact hlt | (unfold inI; omega) | exact tm_in (by omega), ?_⟩)
      refine call_inSub (k0 := 3) (j := 0) (i := (i : Int)) (r := [.ow 2 (e.Table.map Point.enc), .i e.Volume, .ow 1 (e.Pipe.map ienc)]) (c := .ow 2 (e.Table.map Point.enc)) (c' := .ow 2 (marked mkP 2 [] K e.Table.length)) (markPointS_c e.Table (K) (by omega) (by omega)) (by simp) rfl rfl rfl (by first | exact hself _ | simpa using hg) rfl ⟨_, by rw [marked_n]; simp, rfl, rfl, rfl⟩ (by simp [C.sz]) ?_
      simp -dsimp -implicitDefEqProofs [setAt, hself, hlt2, hl]
      repeat (refine ⟨by first | exact hlt | (unfold inI; omega) | exact tm_in (by omega), ?_⟩)
      refine call_inSub (k0 := 3) (j := 2) (i := (i : Int)) (r := [.ow 2 (marked mkP 2 [] K e.Table.length), .i (K + 2 * (e.Table.length : Int)), .ow 1 (e.Pipe.map ienc)]) (c := .ow 1 (e.Pipe.map ienc)) (c' := .ow 1 (marked ienc 1 [] (K + 2 * (e.Table.length : Int) + 1) e.Pipe.length)) (markIntS_c e.Pipe (K + 2 * (e.Table.length : Int) + 1) (by omega) (by omega)) (by simp) rfl rfl rfl (by first | exact hself _ | simpa using hg) rfl ⟨_, by rw [marked_n]; simp, rfl, rfl, rfl⟩ (by simp [C.sz]) ?_
      simp -dsimp -implicitDefEqProofs [setAt, hself, hlt2, hl]
      repeat (refine ⟨by first | exact hlt | (unfold inI; omega) | exact tm_in (by omega) | exact inI_succ hlt hlen, ?_⟩)
      refine ⟨i + 1, hlt, by omega, ?_⟩
      simp only [fk_Reach] at hs
      apply le_of <;> simp [AV.refs1, AV.ref0, Obj.refs1, Obj.leO, hs, hself] <;> omega
    · have : i = xs.length := by omega
      subst this
      simp -dsimp -implicitDefEqProofs
      intro _
      rw [seqTo_all (Nat.le_refl _), cntTo_all (Nat.le_refl _), List.take_of_length_le (by rw [seqM_len]; exact Nat.le_refl _)]
      exact ⟨rfl, rfl⟩
theorem toWayS_o (xs : List Way) (hl : small_WayS xs) : OwnF Tryz.prog n_laws_toWayS [.c (.sl 2 (xs.map Way.enc))] (.c (.ow 2 (xs.map Way.enc))) := by
  refine own_of h_laws_toWayS (by simp) fun hwf => ?_
  simp -dsimp -implicitDefEqProofs [c_laws_toWayS]
  intro hlen
  have hl1 := hl.1
  refine ⟨by omega, ?_⟩
  refine loop_rule (ι := Nat) (fun k => k ≤ xs.length) (fun k => stOf [(0, .c (.sl 2 (xs.map Way.enc))), (3, .own 7 2 xs.length), (4, .c (.i k))] [(7, .row 2 (partly Way.enc [.i 0, .i 0] xs k))]) (fun k => xs.length - k) 0 (by simp) (by apply le_of <;> simp [AV.refs1, AV.ref0, Obj.refs1, partly_zero]) ?_
  rintro k hk
  rcases Nat.lt_or_ge k xs.length with hlt | hge
  · obtain ⟨e, he⟩ : ∃ e, xs[k]? = some e := ⟨_, List.getElem?_eq_getElem hlt⟩
    have hs := partly_set (f := Way.enc) (z := [.i 0, .i 0]) he
    have hd := partly_drop (f := Way.enc) (z := [.i 0, .i 0]) (n := 2) rfl hlt
    simp only [Way.enc] at hs
    simp -dsimp -implicitDefEqProofs [he, lt_t hlt]
    refine fun _ => call_pure (toWay_c e) (by simp) rfl ?_
    simp -dsimp -implicitDefEqProofs [lt_t hlt, partly_len hk, hd, hs]
    exact ⟨hlt, inI_succ hlt hlen, k + 1, hlt, by omega, by apply le_of <;> simp [AV.refs1, AV.ref0, Obj.refs1]⟩
  · simp -dsimp -implicitDefEqProofs [lt_f hge]
    intro _
    rw [partly_all hge, take_full]
def mk_Way (k : Int) : List C := [.i k, .i (k + 1)]
theorem markWayS_c (xs : List Way) (k : Int) (h0 : 0 ≤ k) (h1 : k + 2 * xs.length ≤ 8000000000000000000) :
    InF Tryz.prog n_laws_markWayS (.c (cw 2 (xs.map Way.enc))) (.c (cw 2 (marked mk_Way 2 [] k xs.length))) [.c (.i k)] (.c (.i (k + 2 * xs.length))) := by
  rcases Nat.eq_zero_or_pos xs.length with hx | hx
  · have : xs = [] := List.length_eq_zero_iff.1 hx
    subst this
    refine in_of h_laws_markWayS (by simp) (by simp) rfl fun hwf => ?_
    simp -dsimp -implicitDefEqProofs [c_laws_markWayS, marked]
    refine loop_rule (ι := Unit) (fun _ => True) (fun _ => stOf [(0, .c (.sl 2 [])), (1, .c (.i k)), (5, .c (.i 0)), (1000000, .c (.sl 2 []))] []) (fun _ => 0) () trivial (by apply le_of <;> simp [AV.refs1, AV.ref0, Obj.refs1]) ?_
    rintro _ _
    simp -dsimp -implicitDefEqProofs
  · rw [cw_pos (by simpa using hx), cw_pos (by rw [marked_n]; exact hx)]
    refine in_of h_laws_markWayS (by simp) (by simp) rfl fun hwf => ?_
    simp -dsimp -implicitDefEqProofs [c_laws_markWayS]
    refine loop_rule (ι := Nat) (fun i => i ≤ xs.length) (fun i => stOf [(0, .own 0 2 xs.length), (1, .c (.i (k + 2 * i))), (5, .c (.i i)), (1000000, .own 0 2 xs.length)] [(0, .row 2 (marked mk_Way 2 (xs.map Way.enc) k i))]) (fun i => xs.length - i) 0 (by simp) (by apply le_of <;> simp [AV.refs1, AV.ref0, Obj.refs1, marked_zero]) ?_
    rintro i hi
    rcases Nat.lt_or_ge i xs.length with hlt | hge
    · obtain ⟨e, he⟩ : ∃ e, xs[i]? = some e := ⟨_, List.getElem?_eq_getElem hlt⟩
      have hg := marked_get (mk := mk_Way) (c := 2) (k := k) (rows := xs.map Way.enc) (i := i) (r := e.enc) (by simp [he])
      have hl := marked_len (mk := mk_Way) (c := 2) (k := k) (rows := xs.map Way.enc) (i := i) (by simpa using hi)
      have hs := marked_set (mk := mk_Way) (c := 2) (k := k) (rows := xs.map Way.enc) (i := i) (by simpa using hlt)
      rw [List.length_map] at hl
      generalize marked mk_Way 2 (xs.map Way.enc) k i = M at *
      have hlt2 : i < M.length := by omega
      have hself : ∀ a, (M.set i a)[i]? = some a := fun a => List.getElem?_set_self hlt2
      simp only [mk_Way] at hs
      simp only [Way.enc] at hg
      simp -dsimp -implicitDefEqProofs [lt_t hlt, hg, hl, hlt2, hself]
      intro hlen
      repeat (refine ⟨by first | exact hlt | (unfold inI; omega) | (have := Int.tmod_nonneg 3 (show 0 ≤ k + 2 * (i : Int) by omega); have := Int.tmod_lt_of_pos (k + 2 * (i : Int)) (b := 3) (by omega); unfold inI; omega), ?_⟩)
      refine ⟨i + 1, hlt, by omega, ?_⟩
      apply le_of <;> simp [AV.refs1, AV.ref0, Obj.refs1, hs, hself] <;> omega
    · have : i = xs.length := by omega
      subst this
      simp -dsimp -implicitDefEqProofs
      intro _
      have e := marked_all (mk := mk_Way) (c := 2) (rows := xs.map Way.enc) (k := k) (i := xs.length) (by simp)
      rw [e, List.length_map, List.take_of_length_le (by rw [marked_n]; exact Nat.le_refl _)]
theorem toPauseS_o (xs : List Pause) (hl : small_PauseS xs) : OwnF Tryz.prog n_laws_toPauseS [.c (.sl 2 (xs.map Pause.enc))] (.c (.ow 2 (xs.map Pause.enc))) := by
  refine own_of h_laws_toPauseS (by simp) fun hwf => ?_
  simp -dsimp -implicitDefEqProofs [c_laws_toPauseS]
  intro hlen
  have hl1 := hl.1
  refine ⟨by omega, ?_⟩
  refine loop_rule (ι := Nat) (fun k => k ≤ xs.length) (fun k => stOf [(0, .c (.sl 2 (xs.map Pause.enc))), (3, .own 7 2 xs.length), (4, .c (.i k))] [(7, .row 2 (partly Pause.enc [.i 0, .i 0] xs k))]) (fun k => xs.length - k) 0 (by simp) (by apply le_of <;> simp [AV.refs1, AV.ref0, Obj.refs1, partly_zero]) ?_
  rintro k hk
  rcases Nat.lt_or_ge k xs.length with hlt | hge
  · obtain ⟨e, he⟩ : ∃ e, xs[k]? = some e := ⟨_, List.getElem?_eq_getElem hlt⟩
    have hs := partly_set (f := Pause.enc) (z := [.i 0, .i 0]) he
    have hd := partly_drop (f := Pause.enc) (z := [.i 0, .i 0]) (n := 2) rfl hlt
    simp only [Pause.enc] at hs
    simp -dsimp -implicitDefEqProofs [he, lt_t hlt]
    refine fun _ => call_pure (toPause_c e) (by simp) rfl ?_
    simp -dsimp -implicitDefEqProofs [lt_t hlt, partly_len hk, hd, hs]
    exact ⟨hlt, inI_succ hlt hlen, k + 1, hlt, by omega, by apply le_of <;> simp [AV.refs1, AV.ref0, Obj.refs1]⟩
  · simp -dsimp -implicitDefEqProofs [lt_f hge]
    intro _
    rw [partly_all hge, take_full]
def mk_Pause (k : Int) : List C := [.i k, .i (k + 1)]
theorem markPauseS_c (xs : List Pause) (k : Int) (h0 : 0 ≤ k) (h1 : k + 2 * xs.length ≤ 8000000000000000000) :
    InF Tryz.prog n_laws_markPauseS (.c (cw 2 (xs.map Pause.enc))) (.c (cw 2 (marked mk_Pause 2 [] k xs.length))) [.c (.i k)] (.c (.i (k + 2 * xs.length))) := by
  rcases Nat.eq_zero_or_pos xs.length with hx | hx
  · have : xs = [] := List.length_eq_zero_iff.1 hx
    subst this
    refine in_of h_laws_markPauseS (by simp) (by simp) rfl fun hwf => ?_
    simp -dsimp -implicitDefEqProofs [c_laws_markPauseS, marked]
    refine loop_rule (ι := Unit) (fun _ => True) (fun _ => stOf [(0, .c (.sl 2 [])), (1, .c (.i k)), (5, .c (.i 0)), (1000000, .c (.sl 2 []))] []) (fun _ => 0) () trivial (by apply le_of <;> simp [AV.refs1, AV.ref0, Obj.refs1]) ?_
    rintro _ _
    simp -dsimp -implicitDefEqProofs
  · rw [cw_pos (by simpa using hx), cw_pos (by rw [marked_n]; exact hx)]
    refine in_of h_laws_markPauseS (by simp) (by simp) rfl fun hwf => ?_
    simp -dsimp -implicitDefEqProofs [c_laws_markPauseS]
    refine loop_rule (ι := Nat) (fun i => i ≤ xs.length) (fun i => stOf [(0, .own 0 2 xs.length), (1, .c (.i (k + 2 * i))), (5, .c (.i i)), (1000000, .own 0 2 xs.length)] [(0, .row 2 (marked mk_Pause 2 (xs.map Pause.enc) k i))]) (fun i => xs.length - i) 0 (by simp) (by apply le_of <;> simp [AV.refs1, AV.ref0, Obj.refs1, marked_zero]) ?_
    rintro i hi
    rcases Nat.lt_or_ge i xs.length with hlt | hge
    · obtain ⟨e, he⟩ : ∃ e, xs[i]? = some e := ⟨_, List.getElem?_eq_getElem hlt⟩
      have hg := marked_get (mk := mk_Pause) (c := 2) (k := k) (rows := xs.map Pause.enc) (i := i) (r := e.enc) (by simp [he])
      have hl := marked_len (mk := mk_Pause) (c := 2) (k := k) (rows := xs.map Pause.enc) (i := i) (by simpa using hi)
      have hs := marked_set (mk := mk_Pause) (c := 2) (k := k) (rows := xs.map Pause.enc) (i := i) (by simpa using hlt)
      rw [List.length_map] at hl
      generalize marked mk_Pause 2 (xs.map Pause.enc) k i = M at *
      have hlt2 : i < M.length := by omega
      have hself : ∀ a, (M.set i a)[i]? = some a := fun a => List.getElem?_set_self hlt2
      simp only [mk_Pause] at hs
      simp only [Pause.enc] at hg
      simp -dsimp -implicitDefEqProofs [lt_t hlt, hg, hl, hlt2, hself]
      intro hlen
      repeat (refine ⟨by first | exact hlt | (unfold inI; omega) | (have := Int.tmod_nonneg 3 (show 0 ≤ k + 2 * (i : Int) by omega); have := Int.tmod_lt_of_pos (k + 2 * (i : Int)) (b := 3) (by omega); unfold inI; omega), ?_⟩)
      refine ⟨i + 1, hlt, by omega, ?_⟩
      apply le_of <;> simp [AV.refs1, AV.ref0, Obj.refs1, hs, hself] <;> omega
    · have : i = xs.length := by omega
      subst this
      simp -dsimp -implicitDefEqProofs
      intro _
      have e := marked_all (mk := mk_Pause) (c := 2) (rows := xs.map Pause.enc) (k := k) (i := xs.length) (by simp)
      rw [e, List.length_map, List.take_of_length_le (by rw [marked_n]; exact Nat.le_refl _)]
theorem toTrainS_o (xs : List Train) (hl : small_TrainS xs) : OwnF Tryz.prog n_laws_toTrainS [.c (.sl 2 (xs.map Train.enc))] (.c (.ot 2 (xs.map Train.oenc))) := by
  refine own_of h_laws_toTrainS (by simp) fun hwf => ?_
  simp -dsimp -implicitDefEqProofs [c_laws_toTrainS]
  intro hlen
  have hl1 := hl.1
  refine ⟨by omega, ?_⟩
  refine loop_rule (ι := Nat) (fun k => k ≤ xs.length) (fun k => stOf [(0, .c (.sl 2 (xs.map Train.enc))), (3, .own 7 2 xs.length), (4, .c (.i k))] [(7, .tr 2 0 (partly Train.oenc [.b false, .sl 1 []] xs k))]) (fun k => xs.length - k) 0 (by simp) (by apply le_of <;> simp [AV.refs1, AV.ref0, Obj.refs1, partly_zero, Obj.leO]) ?_
  rintro k hk
  rcases Nat.lt_or_ge k xs.length with hlt | hge
  · obtain ⟨e, he⟩ : ∃ e, xs[k]? = some e := ⟨_, List.getElem?_eq_getElem hlt⟩
    have hs := partly_set (f := Train.oenc) (z := [.b false, .sl 1 []]) he
    have hd := partly_drop (f := Train.oenc) (z := [.b false, .sl 1 []]) (n := 2) rfl hlt
    simp only [Train.oenc] at hs
    simp -dsimp -implicitDefEqProofs [he, lt_t hlt]
    intro _
    refine call_own (toTrain_o e (hl.2 e (List.mem_of_getElem? he))) (by simp) (cl_agg (Train.oenc_cl _)) (by simp [freshO]) ?_
    simp -dsimp -implicitDefEqProofs [lt_t hlt, partly_len hk, take_full, hd, hs]
    exact ⟨hlt, inI_succ hlt hlen, k + 1, hlt, by omega, by apply le_of <;> simp [AV.refs1, AV.ref0, Obj.refs1, Obj.leO]⟩
  · simp -dsimp -implicitDefEqProofs [lt_f hge]
    intro _
    rw [partly_all hge, take_full]
def nk_Train (e : Train) : Nat := 1 + cnt nB e.Rows
def fk_Train (k : Int) (e : Train) : List C := [.b (decide (k.tmod 3 = 0)), .ot 1 (seqM fB nB (k + 1) e.Rows)]
theorem markTrainS_c (xs : List Train) (k : Int) (h0 : 0 ≤ k) (h1 : k + cnt nk_Train xs ≤ 8000000000000000000) :
    InF Tryz.prog n_laws_markTrainS (.c (ct 2 (xs.map Train.oenc))) (.c (ct 2 (seqM fk_Train nk_Train k xs))) [.c (.i k)] (.c (.i (k + cnt nk_Train xs))) := by
  rcases Nat.eq_zero_or_pos xs.length with hx | hx
  · have : xs = [] := List.length_eq_zero_iff.1 hx
    subst this
    refine in_of h_laws_markTrainS (by simp) (by simp) rfl fun hwf => ?_
    simp -dsimp -implicitDefEqProofs [c_laws_markTrainS, seqM, cnt]
    refine loop_rule (ι := Unit) (fun _ => True) (fun _ => stOf [(0, .c (.sl 2 [])), (1, .c (.i k)), (5, .c (.i 0)), (1000000, .c (.sl 2 []))] []) (fun _ => 0) () trivial (by apply le_of <;> simp [AV.refs1, AV.ref0, Obj.refs1]) ?_
    rintro _ _
    simp -dsimp -implicitDefEqProofs
  · rw [ct_pos (by simpa using hx), ct_pos (by rw [seqM_len]; exact hx)]
    refine in_of h_laws_markTrainS (by simp) (by simp) rfl fun hwf => ?_
    simp -dsimp -implicitDefEqProofs [c_laws_markTrainS]
    refine loop_rule (ι := Nat) (fun i => i ≤ xs.length) (fun i => stOf [(0, .own 0 2 xs.length), (1, .c (.i (k + cntTo nk_Train xs i))), (5, .c (.i i)), (1000000, .own 0 2 xs.length)] [(0, .tr 2 0 (seqTo fk_Train Train.oenc nk_Train k xs i))]) (fun i => xs.length - i) 0 (by simp) (by apply le_of <;> simp [AV.refs1, AV.ref0, Obj.refs1, seqTo_zero, cntTo_zero, Obj.leO]) ?_
    rintro i hi
    rcases Nat.lt_or_ge i xs.length with hlt | hge
    · obtain ⟨e, he⟩ : ∃ e, xs[i]? = some e := ⟨_, List.getElem?_eq_getElem hlt⟩
      have hg := seqTo_get (f := fk_Train) (g := Train.oenc) (n := nk_Train) (k := k) he
      have hl := seqTo_len (f := fk_Train) (g := Train.oenc) (n := nk_Train) (k := k) (xs := xs) (i := i)
      have hs := seqTo_set (f := fk_Train) (g := Train.oenc) (n := nk_Train) (k := k) he
      have hc := cntTo_succ (n := nk_Train) he
      have hle := cntTo_le (n := nk_Train) (xs := xs) (i := i + 1)
      have hn : nk_Train e = 1 + cnt nB e.Rows := rfl
      generalize hM : seqTo fk_Train Train.oenc nk_Train k xs i = M at *
      generalize hK : (k + (cntTo nk_Train xs i : Int)) = K at *
      have hlt2 : i < M.length := by omega
      have g1 : M[i] = Train.oenc e := (List.getElem?_eq_some_iff.1 hg).2
      have hself : ∀ a, (M.set i a)[i]? = some a := fun a => List.getElem?_set_self hlt2
      have hgetD : ∀ a, (M.set i a)[i]?.getD [] = a := fun a => by rw [hself]; rfl
      simp only [Train.oenc] at hg g1
      have hk : 0 ≤ K := by omega
      simp -dsimp -implicitDefEqProofs [lt_t hlt, hg, hl, hlt2, g1, hself, setAt]
      intro hlen
      repeat (refine ⟨by first | exact hlt | (unfold inI; omega) | exact tm_in (by omega), ?_⟩)
      refine call_inSub (k0 := 2) (j := 1) (i := (i : Int)) (r := [.b (decide (K.tmod 3 = 0)), .ot 1 (e.Rows.map eo_BoatS)]) (c := .ot 1 (e.Rows.map eo_BoatS)) (c' := .ot 1 (seqM fB nB (K + 1) e.Rows)) (markBoatSS_c e.Rows (K + 1) (by omega) (by omega)) (by simp) rfl rfl rfl (by first | exact hself _ | simpa using hg) rfl ⟨_, by rw [seqM_len]; simp, rfl, rfl, rfl⟩ (by simp [C.sz]) ?_
      simp -dsimp -implicitDefEqProofs [setAt, hself, hlt2, hl]
      repeat (refine ⟨by first | exact hlt | (unfold inI; omega) | exact tm_in (by omega) | exact inI_succ hlt hlen, ?_⟩)
      refine ⟨i + 1, hlt, by omega, ?_⟩
      simp only [fk_Train] at hs
      apply le_of <;> simp [AV.refs1, AV.ref0, Obj.refs1, Obj.leO, hs, hself] <;> omega
    · have : i = xs.length := by omega
      subst this
      simp -dsimp -implicitDefEqProofs
      intro _
      rw [seqTo_all (Nat.le_refl _), cntTo_all (Nat.le_refl _), List.take_of_length_le (by rw [seqM_len]; exact Nat.le_refl _)]
      exact ⟨rfl, rfl⟩
@[simp] def CallT.oenc (e : CallT) : List C := [.b e.Train.Up, .ot 1 (e.Train.Rows.map eo_BoatS), .i e.Since, .i e.Booked]
theorem CallT.oenc_shr (e : CallT) : shrl e.oenc = some e.enc := by simp [CallT.oenc, shrl, cshr_ot eo_BoatS_shr]
theorem CallT.oenc_cl (e : CallT) : ∀ c ∈ e.oenc, c.closed := by
  simp only [CallT.oenc, List.mem_cons, List.not_mem_nil, or_false, forall_eq_or_imp, forall_eq]
  exact ⟨by simp [C.closed], cl_map eo_BoatS_cl _ _, by simp [C.closed], by simp [C.closed]⟩
theorem toCall_o (e : CallT) (hl : CallT.small e) : OwnF Tryz.prog n_laws_toCall [.agg (e.enc.map .c)] (.agg (e.oenc.map .c)) := by
  refine own_of h_laws_toCall (by simp) fun hwf => ?_
  simp -dsimp -implicitDefEqProofs [c_laws_toCall]
  first
    | refine call_own (toTrain_o e.Train hl) (by simp) (cl_agg (Train.oenc_cl _)) (by simp [freshO]) ?_
    | refine callE_own (toTrain_o e.Train hl) (by simp) (cl_agg (Train.oenc_cl _)) (by simp [freshO]) ?_
  simp -dsimp -implicitDefEqProofs [take_full]
theorem toCallS_o (xs : List CallT) (hl : small_CallS xs) : OwnF Tryz.prog n_laws_toCallS [.c (.sl 4 (xs.map CallT.enc))] (.c (.ot 4 (xs.map CallT.oenc))) := by
  refine own_of h_laws_toCallS (by simp) fun hwf => ?_
  simp -dsimp -implicitDefEqProofs [c_laws_toCallS]
  intro hlen
  have hl1 := hl.1
  refine ⟨by omega, ?_⟩
  refine loop_rule (ι := Nat) (fun k => k ≤ xs.length) (fun k => stOf [(0, .c (.sl 4 (xs.map CallT.enc))), (3, .own 7 4 xs.length), (4, .c (.i k))] [(7, .tr 4 0 (partly CallT.oenc [.b false, .sl 1 [], .i 0, .i 0] xs k))]) (fun k => xs.length - k) 0 (by simp) (by apply le_of <;> simp [AV.refs1, AV.ref0, Obj.refs1, partly_zero, Obj.leO]) ?_
  rintro k hk
  rcases Nat.lt_or_ge k xs.length with hlt | hge
  · obtain ⟨e, he⟩ : ∃ e, xs[k]? = some e := ⟨_, List.getElem?_eq_getElem hlt⟩
    have hs := partly_set (f := CallT.oenc) (z := [.b false, .sl 1 [], .i 0, .i 0]) he
    have hd := partly_drop (f := CallT.oenc) (z := [.b false, .sl 1 [], .i 0, .i 0]) (n := 4) rfl hlt
    simp only [CallT.oenc] at hs
    simp -dsimp -implicitDefEqProofs [he, lt_t hlt]
    intro _
    refine call_own (toCall_o e (hl.2 e (List.mem_of_getElem? he))) (by simp) (cl_agg (CallT.oenc_cl _)) (by simp [freshO]) ?_
    simp -dsimp -implicitDefEqProofs [lt_t hlt, partly_len hk, take_full, hd, hs]
    exact ⟨hlt, inI_succ hlt hlen, k + 1, hlt, by omega, by apply le_of <;> simp [AV.refs1, AV.ref0, Obj.refs1, Obj.leO]⟩
  · simp -dsimp -implicitDefEqProofs [lt_f hge]
    intro _
    rw [partly_all hge, take_full]
def nk_Call (e : CallT) : Nat := 1 + cnt nB e.Train.Rows + 1 + 1
def fk_Call (k : Int) (e : CallT) : List C := [.b (decide (k.tmod 3 = 0)), .ot 1 (seqM fB nB (k + 1) e.Train.Rows), .i (k + 1 + (cnt nB e.Train.Rows : Int)), .i (k + 1 + (cnt nB e.Train.Rows : Int) + 1)]
theorem markCallS_c (xs : List CallT) (k : Int) (h0 : 0 ≤ k) (h1 : k + cnt nk_Call xs ≤ 8000000000000000000) :
    InF Tryz.prog n_laws_markCallS (.c (ct 4 (xs.map CallT.oenc))) (.c (ct 4 (seqM fk_Call nk_Call k xs))) [.c (.i k)] (.c (.i (k + cnt nk_Call xs))) := by
  rcases Nat.eq_zero_or_pos xs.length with hx | hx
  · have : xs = [] := List.length_eq_zero_iff.1 hx
    subst this
    refine in_of h_laws_markCallS (by simp) (by simp) rfl fun hwf => ?_
    simp -dsimp -implicitDefEqProofs [c_laws_markCallS, seqM, cnt]
    refine loop_rule (ι := Unit) (fun _ => True) (fun _ => stOf [(0, .c (.sl 4 [])), (1, .c (.i k)), (5, .c (.i 0)), (1000000, .c (.sl 4 []))] []) (fun _ => 0) () trivial (by apply le_of <;> simp [AV.refs1, AV.ref0, Obj.refs1]) ?_
    rintro _ _
    simp -dsimp -implicitDefEqProofs
  · rw [ct_pos (by simpa using hx), ct_pos (by rw [seqM_len]; exact hx)]
    refine in_of h_laws_markCallS (by simp) (by simp) rfl fun hwf => ?_
    simp -dsimp -implicitDefEqProofs [c_laws_markCallS]
    refine loop_rule (ι := Nat) (fun i => i ≤ xs.length) (fun i => stOf [(0, .own 0 4 xs.length), (1, .c (.i (k + cntTo nk_Call xs i))), (5, .c (.i i)), (1000000, .own 0 4 xs.length)] [(0, .tr 4 0 (seqTo fk_Call CallT.oenc nk_Call k xs i))]) (fun i => xs.length - i) 0 (by simp) (by apply le_of <;> simp [AV.refs1, AV.ref0, Obj.refs1, seqTo_zero, cntTo_zero, Obj.leO]) ?_
    rintro i hi
    rcases Nat.lt_or_ge i xs.length with hlt | hge
    · obtain ⟨e, he⟩ : ∃ e, xs[i]? = some e := ⟨_, List.getElem?_eq_getElem hlt⟩
      have hg := seqTo_get (f := fk_Call) (g := CallT.oenc) (n := nk_Call) (k := k) he
      have hl := seqTo_len (f := fk_Call) (g := CallT.oenc) (n := nk_Call) (k := k) (xs := xs) (i := i)
      have hs := seqTo_set (f := fk_Call) (g := CallT.oenc) (n := nk_Call) (k := k) he
      have hc := cntTo_succ (n := nk_Call) he
      have hle := cntTo_le (n := nk_Call) (xs := xs) (i := i + 1)
      have hn : nk_Call e = 1 + cnt nB e.Train.Rows + 1 + 1 := rfl
      generalize hM : seqTo fk_Call CallT.oenc nk_Call k xs i = M at *
      generalize hK : (k + (cntTo nk_Call xs i : Int)) = K at *
      have hlt2 : i < M.length := by omega
      have g1 : M[i] = CallT.oenc e := (List.getElem?_eq_some_iff.1 hg).2
      have hself : ∀ a, (M.set i a)[i]? = some a := fun a => List.getElem?_set_self hlt2
      have hgetD : ∀ a, (M.set i a)[i]?.getD [] = a := fun a => by rw [hself]; rfl
      simp only [CallT.oenc] at hg g1
      have hk : 0 ≤ K := by omega
      simp -dsimp -implicitDefEqProofs [lt_t hlt, hg, hl, hlt2, g1, hself, setAt]
      intro hlen
      repeat (refine ⟨by first | exact hlt | (unfold inI; omega) | exact tm_in (by omega), ?_⟩)
      refine call_inSub (k0 := 4) (j := 1) (i := (i : Int)) (r := [.b (decide (K.tmod 3 = 0)), .ot 1 (e.Train.Rows.map eo_BoatS), .i e.Since, .i e.Booked]) (c := .ot 1 (e.Train.Rows.map eo_BoatS)) (c' := .ot 1 (seqM fB nB (K + 1) e.Train.Rows)) (markBoatSS_c e.Train.Rows (K + 1) (by omega) (by omega)) (by simp) rfl rfl rfl (by first | exact hself _ | simpa using hg) rfl ⟨_, by rw [seqM_len]; simp, rfl, rfl, rfl⟩ (by simp [C.sz]) ?_
      simp -dsimp -implicitDefEqProofs [setAt, hself, hlt2, hl]
      repeat (refine ⟨by first | exact hlt | (unfold inI; omega) | exact tm_in (by omega) | exact inI_succ hlt hlen, ?_⟩)
      refine ⟨i + 1, hlt, by omega, ?_⟩
      simp only [fk_Call] at hs
      apply le_of <;> simp [AV.refs1, AV.ref0, Obj.refs1, Obj.leO, hs, hself] <;> omega
    · have : i = xs.length := by omega
      subst this
      simp -dsimp -implicitDefEqProofs
      intro _
      rw [seqTo_all (Nat.le_refl _), cntTo_all (Nat.le_refl _), List.take_of_length_le (by rw [seqM_len]; exact Nat.le_refl _)]
      exact ⟨rfl, rfl⟩
@[simp] def Lock.oenc (e : Lock) : List C := [.i e.Length, .i e.Width, .i e.SillAbove, .i e.SillBelow, .i e.Base, .i e.Area, .i e.Rate, .i e.Water, .i e.Gate, .ot 2 (e.Inside.map Train.oenc)]
theorem Lock.oenc_shr (e : Lock) : shrl e.oenc = some e.enc := by simp [Lock.oenc, shrl, cshr_ot Train.oenc_shr]
theorem Lock.oenc_cl (e : Lock) : ∀ c ∈ e.oenc, c.closed := by
  simp only [Lock.oenc, List.mem_cons, List.not_mem_nil, or_false, forall_eq_or_imp, forall_eq]
  exact ⟨by simp [C.closed], by simp [C.closed], by simp [C.closed], by simp [C.closed], by simp [C.closed], by simp [C.closed], by simp [C.closed], by simp [C.closed], by simp [C.closed], cl_map Train.oenc_cl _ _⟩
set_option maxRecDepth 20000 in
theorem toLock_o (e : Lock) (hl : Lock.small e) : OwnF Tryz.prog n_laws_toLock [.agg (e.enc.map .c)] (.agg (e.oenc.map .c)) := by
  refine own_of h_laws_toLock (by simp) fun hwf => ?_
  simp -dsimp -implicitDefEqProofs [c_laws_toLock]
  first
    | refine call_own (toTrainS_o e.Inside hl) (by simp) (cl_map Train.oenc_cl _ _) (by simp [freshO]) ?_
    | refine callE_own (toTrainS_o e.Inside hl) (by simp) (cl_map Train.oenc_cl _ _) (by simp [freshO]) ?_
  simp -dsimp -implicitDefEqProofs [take_full]
@[simp] def Work.oenc (e : Work) : List C := [.i e.Lock.Length, .i e.Lock.Width, .i e.Lock.SillAbove, .i e.Lock.SillBelow, .i e.Lock.Base, .i e.Lock.Area, .i e.Lock.Rate, .i e.Lock.Water, .i e.Lock.Gate, .ot 2 (e.Lock.Inside.map Train.oenc), .i e.Weir.Gates, .i e.Weir.Open, .i e.Weir.Step, .i e.Weir.Crest, .i e.Weir.Width, .i e.Rule.Low, .i e.Rule.High, .i e.Rule.Flood, .ow 2 (e.Pauses.map Pause.enc), .b e.Turn.Up, .i e.Turn.Count, .ot 4 (e.Calls.map CallT.oenc)]
theorem Work.oenc_shr (e : Work) : shrl e.oenc = some e.enc := by simp [Work.oenc, shrl, cshr_ot Train.oenc_shr, cshr_ot CallT.oenc_shr]
theorem Work.oenc_cl (e : Work) : ∀ c ∈ e.oenc, c.closed := by
  simp only [Work.oenc, List.mem_cons, List.not_mem_nil, or_false, forall_eq_or_imp, forall_eq]
  exact ⟨by simp [C.closed], by simp [C.closed], by simp [C.closed], by simp [C.closed], by simp [C.closed], by simp [C.closed], by simp [C.closed], by simp [C.closed], by simp [C.closed], cl_map Train.oenc_cl _ _, by simp [C.closed], by simp [C.closed], by simp [C.closed], by simp [C.closed], by simp [C.closed], by simp [C.closed], by simp [C.closed], by simp [C.closed], by simp [C.closed], by simp [C.closed], by simp [C.closed], cl_map CallT.oenc_cl _ _⟩
set_option maxRecDepth 20000 in
theorem toWork_o (e : Work) (hl : Work.small e) : OwnF Tryz.prog n_laws_toWork [.agg (e.enc.map .c)] (.agg (e.oenc.map .c)) := by
  refine own_of h_laws_toWork (by simp) fun hwf => ?_
  simp -dsimp -implicitDefEqProofs [c_laws_toWork]
  first
    | refine call_own (toLock_o e.Lock hl.1) (by simp) (cl_agg (Lock.oenc_cl _)) (by simp [freshO]) ?_
    | refine callE_own (toLock_o e.Lock hl.1) (by simp) (cl_agg (Lock.oenc_cl _)) (by simp [freshO]) ?_
  simp -dsimp -implicitDefEqProofs [take_full]
  first
    | refine call_lend (toWeir_c e.Weir) (by simp) rfl ?_
    | refine call_pure (toWeir_c e.Weir) (by simp) rfl ?_
    | refine ⟨_, _, toWeir_c e.Weir, by simp, .inr rfl, ?_⟩
    | refine ⟨_, _, toWeir_c e.Weir, by simp, .inl rfl, ?_⟩
    | refine callE_pure (toWeir_c e.Weir) (by simp) (.inr rfl) ?_
    | refine callE_pure (toWeir_c e.Weir) (by simp) (.inl rfl) ?_
  simp -dsimp -implicitDefEqProofs
  first
    | refine call_lend (toRule_c e.Rule) (by simp) rfl ?_
    | refine call_pure (toRule_c e.Rule) (by simp) rfl ?_
    | refine ⟨_, _, toRule_c e.Rule, by simp, .inr rfl, ?_⟩
    | refine ⟨_, _, toRule_c e.Rule, by simp, .inl rfl, ?_⟩
    | refine callE_pure (toRule_c e.Rule) (by simp) (.inr rfl) ?_
    | refine callE_pure (toRule_c e.Rule) (by simp) (.inl rfl) ?_
  simp -dsimp -implicitDefEqProofs
  first
    | refine call_own (toPauseS_o e.Pauses hl.2.1) (by simp) (by simp [AV.closed, AV.closed1, C.closed]) (by simp [freshO]) ?_
    | refine callE_own (toPauseS_o e.Pauses hl.2.1) (by simp) (by simp [AV.closed, AV.closed1, C.closed]) (by simp [freshO]) ?_
  simp -dsimp -implicitDefEqProofs [take_full]
  first
    | refine call_lend (toTurn_c e.Turn) (by simp) rfl ?_
    | refine call_pure (toTurn_c e.Turn) (by simp) rfl ?_
    | refine ⟨_, _, toTurn_c e.Turn, by simp, .inr rfl, ?_⟩
    | refine ⟨_, _, toTurn_c e.Turn, by simp, .inl rfl, ?_⟩
    | refine callE_pure (toTurn_c e.Turn) (by simp) (.inr rfl) ?_
    | refine callE_pure (toTurn_c e.Turn) (by simp) (.inl rfl) ?_
  simp -dsimp -implicitDefEqProofs
  first
    | refine call_own (toCallS_o e.Calls hl.2.2) (by simp) (cl_map CallT.oenc_cl _ _) (by simp [freshO]) ?_
    | refine callE_own (toCallS_o e.Calls hl.2.2) (by simp) (cl_map CallT.oenc_cl _ _) (by simp [freshO]) ?_
  simp -dsimp -implicitDefEqProofs [take_full]
set_option maxRecDepth 20000 in
theorem toWorkS_o (xs : List Work) (hl : small_WorkS xs) : OwnF Tryz.prog n_laws_toWorkS [.c (.sl 22 (xs.map Work.enc))] (.c (.ot 22 (xs.map Work.oenc))) := by
  refine own_of h_laws_toWorkS (by simp) fun hwf => ?_
  simp -dsimp -implicitDefEqProofs [c_laws_toWorkS]
  intro hlen
  have hl1 := hl.1
  refine ⟨by omega, ?_⟩
  refine loop_rule (ι := Nat) (fun k => k ≤ xs.length) (fun k => stOf [(0, .c (.sl 22 (xs.map Work.enc))), (3, .own 7 22 xs.length), (4, .c (.i k))] [(7, .tr 22 0 (partly Work.oenc [.i 0, .i 0, .i 0, .i 0, .i 0, .i 0, .i 0, .i 0, .i 0, .sl 2 [], .i 0, .i 0, .i 0, .i 0, .i 0, .i 0, .i 0, .i 0, .sl 2 [], .b false, .i 0, .sl 4 []] xs k))]) (fun k => xs.length - k) 0 (by simp) (by apply le_of <;> simp [AV.refs1, AV.ref0, Obj.refs1, partly_zero, Obj.leO]) ?_
  rintro k hk
  rcases Nat.lt_or_ge k xs.length with hlt | hge
  · obtain ⟨e, he⟩ : ∃ e, xs[k]? = some e := ⟨_, List.getElem?_eq_getElem hlt⟩
    have hs := partly_set (f := Work.oenc) (z := [.i 0, .i 0, .i 0, .i 0, .i 0, .i 0, .i 0, .i 0, .i 0, .sl 2 [], .i 0, .i 0, .i 0, .i 0, .i 0, .i 0, .i 0, .i 0, .sl 2 [], .b false, .i 0, .sl 4 []]) he
    have hd := partly_drop (f := Work.oenc) (z := [.i 0, .i 0, .i 0, .i 0, .i 0, .i 0, .i 0, .i 0, .i 0, .sl 2 [], .i 0, .i 0, .i 0, .i 0, .i 0, .i 0, .i 0, .i 0, .sl 2 [], .b false, .i 0, .sl 4 []]) (n := 22) rfl hlt
    simp only [Work.oenc] at hs
    simp -dsimp -implicitDefEqProofs [he, lt_t hlt]
    intro _
    refine call_own (toWork_o e (hl.2 e (List.mem_of_getElem? he))) (by simp) (cl_agg (Work.oenc_cl _)) (by simp [freshO]) ?_
    simp -dsimp -implicitDefEqProofs [lt_t hlt, partly_len hk, take_full, hd, hs]
    exact ⟨hlt, inI_succ hlt hlen, k + 1, hlt, by omega, by apply le_of <;> simp [AV.refs1, AV.ref0, Obj.refs1, Obj.leO]⟩
  · simp -dsimp -implicitDefEqProofs [lt_f hge]
    intro _
    rw [partly_all hge, take_full]
def nk_Work (e : Work) : Nat := 1 + 1 + 1 + 1 + 1 + 1 + 1 + 1 + 1 + cnt nk_Train e.Lock.Inside + 1 + 1 + 1 + 1 + 1 + 1 + 1 + 1 + 2 * e.Pauses.length + 1 + 1 + cnt nk_Call e.Calls
def fk_Work (k : Int) (e : Work) : List C := [.i k, .i (k + 1), .i (k + 1 + 1), .i (k + 1 + 1 + 1), .i (k + 1 + 1 + 1 + 1), .i (k + 1 + 1 + 1 + 1 + 1), .i (k + 1 + 1 + 1 + 1 + 1 + 1), .i (k + 1 + 1 + 1 + 1 + 1 + 1 + 1), .i (k + 1 + 1 + 1 + 1 + 1 + 1 + 1 + 1), .ot 2 (seqM fk_Train nk_Train (k + 1 + 1 + 1 + 1 + 1 + 1 + 1 + 1 + 1) e.Lock.Inside), .i (k + 1 + 1 + 1 + 1 + 1 + 1 + 1 + 1 + 1 + (cnt nk_Train e.Lock.Inside : Int)), .i (k + 1 + 1 + 1 + 1 + 1 + 1 + 1 + 1 + 1 + (cnt nk_Train e.Lock.Inside : Int) + 1), .i (k + 1 + 1 + 1 + 1 + 1 + 1 + 1 + 1 + 1 + (cnt nk_Train e.Lock.Inside : Int) + 1 + 1), .i (k + 1 + 1 + 1 + 1 + 1 + 1 + 1 + 1 + 1 + (cnt nk_Train e.Lock.Inside : Int) + 1 + 1 + 1), .i (k + 1 + 1 + 1 + 1 + 1 + 1 + 1 + 1 + 1 + (cnt nk_Train e.Lock.Inside : Int) + 1 + 1 + 1 + 1), .i (k + 1 + 1 + 1 + 1 + 1 + 1 + 1 + 1 + 1 + (cnt nk_Train e.Lock.Inside : Int) + 1 + 1 + 1 + 1 + 1), .i (k + 1 + 1 + 1 + 1 + 1 + 1 + 1 + 1 + 1 + (cnt nk_Train e.Lock.Inside : Int) + 1 + 1 + 1 + 1 + 1 + 1), .i (k + 1 + 1 + 1 + 1 + 1 + 1 + 1 + 1 + 1 + (cnt nk_Train e.Lock.Inside : Int) + 1 + 1 + 1 + 1 + 1 + 1 + 1), .ow 2 (marked mk_Pause 2 [] (k + 1 + 1 + 1 + 1 + 1 + 1 + 1 + 1 + 1 + (cnt nk_Train e.Lock.Inside : Int) + 1 + 1 + 1 + 1 + 1 + 1 + 1 + 1) e.Pauses.length), .b (decide ((k + 1 + 1 + 1 + 1 + 1 + 1 + 1 + 1 + 1 + (cnt nk_Train e.Lock.Inside : Int) + 1 + 1 + 1 + 1 + 1 + 1 + 1 + 1 + 2 * (e.Pauses.length : Int)).tmod 3 = 0)), .i (k + 1 + 1 + 1 + 1 + 1 + 1 + 1 + 1 + 1 + (cnt nk_Train e.Lock.Inside : Int) + 1 + 1 + 1 + 1 + 1 + 1 + 1 + 1 + 2 * (e.Pauses.length : Int) + 1), .ot 4 (seqM fk_Call nk_Call (k + 1 + 1 + 1 + 1 + 1 + 1 + 1 + 1 + 1 + (cnt nk_Train e.Lock.Inside : Int) + 1 + 1 + 1 + 1 + 1 + 1 + 1 + 1 + 2 * (e.Pauses.length : Int) + 1 + 1) e.Calls)]
set_option maxRecDepth 20000 in
theorem markWorkS_c (xs : List Work) (k : Int) (h0 : 0 ≤ k) (h1 : k + cnt nk_Work xs ≤ 8000000000000000000) :
    InF Tryz.prog n_laws_markWorkS (.c (ct 22 (xs.map Work.oenc))) (.c (ct 22 (seqM fk_Work nk_Work k xs))) [.c (.i k)] (.c (.i (k + cnt nk_Work xs))) := by
  rcases Nat.eq_zero_or_pos xs.length with hx | hx
  · have : xs = [] := List.length_eq_zero_iff.1 hx
    subst this
    refine in_of h_laws_markWorkS (by simp) (by simp) rfl fun hwf => ?_
    simp -dsimp -implicitDefEqProofs [c_laws_markWorkS, seqM, cnt]
    refine loop_rule (ι := Unit) (fun _ => True) (fun _ => stOf [(0, .c (.sl 22 [])), (1, .c (.i k)), (5, .c (.i 0)), (1000000, .c (.sl 22 []))] []) (fun _ => 0) () trivial (by apply le_of <;> simp [AV.refs1, AV.ref0, Obj.refs1]) ?_
    rintro _ _
    simp -dsimp -implicitDefEqProofs
  · rw [ct_pos (by simpa using hx), ct_pos (by rw [seqM_len]; exact hx)]
    refine in_of h_laws_markWorkS (by simp) (by simp) rfl fun hwf => ?_
    simp -dsimp -implicitDefEqProofs [c_laws_markWorkS]
    refine loop_rule (ι := Nat) (fun i => i ≤ xs.length) (fun i => stOf [(0, .own 0 22 xs.length), (1, .c (.i (k + cntTo nk_Work xs i))), (5, .c (.i i)), (1000000, .own 0 22 xs.length)] [(0, .tr 22 0 (seqTo fk_Work Work.oenc nk_Work k xs i))]) (fun i => xs.length - i) 0 (by simp) (by apply le_of <;> simp [AV.refs1, AV.ref0, Obj.refs1, seqTo_zero, cntTo_zero, Obj.leO]) ?_
    rintro i hi
    rcases Nat.lt_or_ge i xs.length with hlt | hge
    · obtain ⟨e, he⟩ : ∃ e, xs[i]? = some e := ⟨_, List.getElem?_eq_getElem hlt⟩
      have hg := seqTo_get (f := fk_Work) (g := Work.oenc) (n := nk_Work) (k := k) he
      have hl := seqTo_len (f := fk_Work) (g := Work.oenc) (n := nk_Work) (k := k) (xs := xs) (i := i)
      have hs := seqTo_set (f := fk_Work) (g := Work.oenc) (n := nk_Work) (k := k) he
      have hc := cntTo_succ (n := nk_Work) he
      have hle := cntTo_le (n := nk_Work) (xs := xs) (i := i + 1)
      have hn : nk_Work e = 1 + 1 + 1 + 1 + 1 + 1 + 1 + 1 + 1 + cnt nk_Train e.Lock.Inside + 1 + 1 + 1 + 1 + 1 + 1 + 1 + 1 + 2 * e.Pauses.length + 1 + 1 + cnt nk_Call e.Calls := rfl
      generalize hM : seqTo fk_Work Work.oenc nk_Work k xs i = M at *
      generalize hK : (k + (cntTo nk_Work xs i : Int)) = K at *
      have hlt2 : i < M.length := by omega
      have g1 : M[i] = Work.oenc e := (List.getElem?_eq_some_iff.1 hg).2
      have hself : ∀ a, (M.set i a)[i]? = some a := fun a => List.getElem?_set_self hlt2
      have hgetD : ∀ a, (M.set i a)[i]?.getD [] = a := fun a => by rw [hself]; rfl
      simp only [Work.oenc] at hg g1
      have hk : 0 ≤ K := by omega
      simp -dsimp -implicitDefEqProofs [lt_t hlt, hg, hl, hlt2, g1, hself, setAt]
      intro hlen
      repeat (refine ⟨by first | exact hlt | (unfold inI; omega) | exact tm_in (by omega), ?_⟩)
      refine call_inSub (k0 := 22) (j := 9) (i := (i : Int)) (r := [.i K, .i (K + 1), .i (K + 1 + 1), .i (K + 1 + 1 + 1), .i (K + 1 + 1 + 1 + 1), .i (K + 1 + 1 + 1 + 1 + 1), .i (K + 1 + 1 + 1 + 1 + 1 + 1), .i (K + 1 + 1 + 1 + 1 + 1 + 1 + 1), .i (K + 1 + 1 + 1 + 1 + 1 + 1 + 1 + 1), .ot 2 (e.Lock.Inside.map Train.oenc), .i e.Weir.Gates, .i e.Weir.Open, .i e.Weir.Step, .i e.Weir.Crest, .i e.Weir.Width, .i e.Rule.Low, .i e.Rule.High, .i e.Rule.Flood, .ow 2 (e.Pauses.map Pause.enc), .b e.Turn.Up, .i e.Turn.Count, .ot 4 (e.Calls.map CallT.oenc)]) (c := .ot 2 (e.Lock.Inside.map Train.oenc)) (c' := .ot 2 (seqM fk_Train nk_Train (K + 1 + 1 + 1 + 1 + 1 + 1 + 1 + 1 + 1) e.Lock.Inside)) (markTrainS_c e.Lock.Inside (K + 1 + 1 + 1 + 1 + 1 + 1 + 1 + 1 + 1) (by omega) (by omega)) (by simp) rfl rfl rfl (by first | exact hself _ | simpa using hg) rfl ⟨_, by rw [seqM_len]; simp, rfl, rfl, rfl⟩ (by simp [C.sz]) ?_
      simp -dsimp -implicitDefEqProofs [setAt, hself, hlt2, hl]
      repeat (refine ⟨by first | exact hlt | (unfold inI; omega) | exact tm_in (by omega), ?_⟩)
      refine call_inSub (k0 := 22) (j := 18) (i := (i : Int)) (r := [.i K, .i (K + 1), .i (K + 1 + 1), .i (K + 1 + 1 + 1), .i (K + 1 + 1 + 1 + 1), .i (K + 1 + 1 + 1 + 1 + 1), .i (K + 1 + 1 + 1 + 1 + 1 + 1), .i (K + 1 + 1 + 1 + 1 + 1 + 1 + 1), .i (K + 1 + 1 + 1 + 1 + 1 + 1 + 1 + 1), .ot 2 (seqM fk_Train nk_Train (K + 1 + 1 + 1 + 1 + 1 + 1 + 1 + 1 + 1) e.Lock.Inside), .i (K + 1 + 1 + 1 + 1 + 1 + 1 + 1 + 1 + 1 + (cnt nk_Train e.Lock.Inside : Int)), .i (K + 1 + 1 + 1 + 1 + 1 + 1 + 1 + 1 + 1 + (cnt nk_Train e.Lock.Inside : Int) + 1), .i (K + 1 + 1 + 1 + 1 + 1 + 1 + 1 + 1 + 1 + (cnt nk_Train e.Lock.Inside : Int) + 1 + 1), .i (K + 1 + 1 + 1 + 1 + 1 + 1 + 1 + 1 + 1 + (cnt nk_Train e.Lock.Inside : Int) + 1 + 1 + 1), .i (K + 1 + 1 + 1 + 1 + 1 + 1 + 1 + 1 + 1 + (cnt nk_Train e.Lock.Inside : Int) + 1 + 1 + 1 + 1), .i (K + 1 + 1 + 1 + 1 + 1 + 1 + 1 + 1 + 1 + (cnt nk_Train e.Lock.Inside : Int) + 1 + 1 + 1 + 1 + 1), .i (K + 1 + 1 + 1 + 1 + 1 + 1 + 1 + 1 + 1 + (cnt nk_Train e.Lock.Inside : Int) + 1 + 1 + 1 + 1 + 1 + 1), .i (K + 1 + 1 + 1 + 1 + 1 + 1 + 1 + 1 + 1 + (cnt nk_Train e.Lock.Inside : Int) + 1 + 1 + 1 + 1 + 1 + 1 + 1), .ow 2 (e.Pauses.map Pause.enc), .b e.Turn.Up, .i e.Turn.Count, .ot 4 (e.Calls.map CallT.oenc)]) (c := .ow 2 (e.Pauses.map Pause.enc)) (c' := .ow 2 (marked mk_Pause 2 [] (K + 1 + 1 + 1 + 1 + 1 + 1 + 1 + 1 + 1 + (cnt nk_Train e.Lock.Inside : Int) + 1 + 1 + 1 + 1 + 1 + 1 + 1 + 1) e.Pauses.length)) (markPauseS_c e.Pauses (K + 1 + 1 + 1 + 1 + 1 + 1 + 1 + 1 + 1 + (cnt nk_Train e.Lock.Inside : Int) + 1 + 1 + 1 + 1 + 1 + 1 + 1 + 1) (by omega) (by omega)) (by simp) rfl rfl rfl (by first | exact hself _ | simpa using hg) rfl ⟨_, by rw [marked_n]; simp, rfl, rfl, rfl⟩ (by simp [C.sz]) ?_
      simp -dsimp -implicitDefEqProofs [setAt, hself, hlt2, hl]
      repeat (refine ⟨by first | exact hlt | (unfold inI; omega) | exact tm_in (by omega), ?_⟩)
      refine call_inSub (k0 := 22) (j := 21) (i := (i : Int)) (r := [.i K, .i (K + 1), .i (K + 1 + 1), .i (K + 1 + 1 + 1), .i (K + 1 + 1 + 1 + 1), .i (K + 1 + 1 + 1 + 1 + 1), .i (K + 1 + 1 + 1 + 1 + 1 + 1), .i (K + 1 + 1 + 1 + 1 + 1 + 1 + 1), .i (K + 1 + 1 + 1 + 1 + 1 + 1 + 1 + 1), .ot 2 (seqM fk_Train nk_Train (K + 1 + 1 + 1 + 1 + 1 + 1 + 1 + 1 + 1) e.Lock.Inside), .i (K + 1 + 1 + 1 + 1 + 1 + 1 + 1 + 1 + 1 + (cnt nk_Train e.Lock.Inside : Int)), .i (K + 1 + 1 + 1 + 1 + 1 + 1 + 1 + 1 + 1 + (cnt nk_Train e.Lock.Inside : Int) + 1), .i (K + 1 + 1 + 1 + 1 + 1 + 1 + 1 + 1 + 1 + (cnt nk_Train e.Lock.Inside : Int) + 1 + 1), .i (K + 1 + 1 + 1 + 1 + 1 + 1 + 1 + 1 + 1 + (cnt nk_Train e.Lock.Inside : Int) + 1 + 1 + 1), .i (K + 1 + 1 + 1 + 1 + 1 + 1 + 1 + 1 + 1 + (cnt nk_Train e.Lock.Inside : Int) + 1 + 1 + 1 + 1), .i (K + 1 + 1 + 1 + 1 + 1 + 1 + 1 + 1 + 1 + (cnt nk_Train e.Lock.Inside : Int) + 1 + 1 + 1 + 1 + 1), .i (K + 1 + 1 + 1 + 1 + 1 + 1 + 1 + 1 + 1 + (cnt nk_Train e.Lock.Inside : Int) + 1 + 1 + 1 + 1 + 1 + 1), .i (K + 1 + 1 + 1 + 1 + 1 + 1 + 1 + 1 + 1 + (cnt nk_Train e.Lock.Inside : Int) + 1 + 1 + 1 + 1 + 1 + 1 + 1), .ow 2 (marked mk_Pause 2 [] (K + 1 + 1 + 1 + 1 + 1 + 1 + 1 + 1 + 1 + (cnt nk_Train e.Lock.Inside : Int) + 1 + 1 + 1 + 1 + 1 + 1 + 1 + 1) e.Pauses.length), .b (decide ((K + 1 + 1 + 1 + 1 + 1 + 1 + 1 + 1 + 1 + (cnt nk_Train e.Lock.Inside : Int) + 1 + 1 + 1 + 1 + 1 + 1 + 1 + 1 + 2 * (e.Pauses.length : Int)).tmod 3 = 0)), .i (K + 1 + 1 + 1 + 1 + 1 + 1 + 1 + 1 + 1 + (cnt nk_Train e.Lock.Inside : Int) + 1 + 1 + 1 + 1 + 1 + 1 + 1 + 1 + 2 * (e.Pauses.length : Int) + 1), .ot 4 (e.Calls.map CallT.oenc)]) (c := .ot 4 (e.Calls.map CallT.oenc)) (c' := .ot 4 (seqM fk_Call nk_Call (K + 1 + 1 + 1 + 1 + 1 + 1 + 1 + 1 + 1 + (cnt nk_Train e.Lock.Inside : Int) + 1 + 1 + 1 + 1 + 1 + 1 + 1 + 1 + 2 * (e.Pauses.length : Int) + 1 + 1) e.Calls)) (markCallS_c e.Calls (K + 1 + 1 + 1 + 1 + 1 + 1 + 1 + 1 + 1 + (cnt nk_Train e.Lock.Inside : Int) + 1 + 1 + 1 + 1 + 1 + 1 + 1 + 1 + 2 * (e.Pauses.length : Int) + 1 + 1) (by omega) (by omega)) (by simp) rfl rfl rfl (by first | exact hself _ | simpa using hg) rfl ⟨_, by rw [seqM_len]; simp, rfl, rfl, rfl⟩ (by simp [C.sz]) ?_
      simp -dsimp -implicitDefEqProofs [setAt, hself, hlt2, hl]
      repeat (refine ⟨by first | exact hlt | (unfold inI; omega) | exact tm_in (by omega) | exact inI_succ hlt hlen, ?_⟩)
      refine ⟨i + 1, hlt, by omega, ?_⟩
      simp only [fk_Work] at hs
      apply le_of <;> simp [AV.refs1, AV.ref0, Obj.refs1, Obj.leO, hs, hself] <;> omega
    · have : i = xs.length := by omega
      subst this
      simp -dsimp -implicitDefEqProofs
      intro _
      rw [seqTo_all (Nat.le_refl _), cntTo_all (Nat.le_refl _), List.take_of_length_le (by rw [seqM_len]; exact Nat.le_refl _)]
      exact ⟨rfl, rfl⟩
def eo_MoverS (xs : List Mover) : List C := [.ot 3 (xs.map Mover.oenc)]
theorem eo_MoverS_shr (xs : List Mover) : shrl (eo_MoverS xs) = some (enc_MoverS xs) := by simp [eo_MoverS, shrl, cshr_ot Mover.oenc_shr]
theorem eo_MoverS_cl (xs : List Mover) : ∀ c ∈ eo_MoverS xs, c.closed := by
  intro c hc
  simp only [eo_MoverS, List.mem_singleton] at hc
  subst hc
  exact cl_map Mover.oenc_cl _ _
theorem toMoverSS_o (xs : List (List Mover)) (hl : small_MoverSS xs) : OwnF Tryz.prog n_laws_toMoverSS [.c (.sl 1 (xs.map enc_MoverS))] (.c (.ot 1 (xs.map eo_MoverS))) := by
  refine own_of h_laws_toMoverSS (by simp) fun hwf => ?_
  simp -dsimp -implicitDefEqProofs [c_laws_toMoverSS]
  intro hlen
  have hl1 := hl.1
  refine ⟨by omega, ?_⟩
  refine loop_rule (ι := Nat) (fun k => k ≤ xs.length) (fun k => stOf [(0, .c (.sl 1 (xs.map enc_MoverS))), (3, .own 7 1 xs.length), (4, .c (.i k))] [(7, .tr 1 0 (partly eo_MoverS [.sl 3 []] xs k))]) (fun k => xs.length - k) 0 (by simp) (by apply le_of <;> simp [AV.refs1, AV.ref0, Obj.refs1, partly_zero, Obj.leO]) ?_
  rintro k hk
  rcases Nat.lt_or_ge k xs.length with hlt | hge
  · obtain ⟨e, he⟩ : ∃ e, xs[k]? = some e := ⟨_, List.getElem?_eq_getElem hlt⟩
    have hs := partly_set (f := eo_MoverS) (z := [.sl 3 []]) he
    have hd : ((partly eo_MoverS [.sl 3 []] xs k)[k]?.getD []).set 0 (.ot 3 (e.map Mover.oenc)) = eo_MoverS e := by
      have := partly_get (f := eo_MoverS) (z := [.sl 3 []]) (n := 1) rfl (fun _ => rfl) hlt
      obtain ⟨x, hx⟩ := List.length_eq_one_iff.1 this
      rw [hx]; rfl
    simp -dsimp -implicitDefEqProofs [he, lt_t hlt]
    intro _
    refine call_own (toMoverS_o e (hl.2 e (List.mem_of_getElem? he))) (by simp) (cl_map Mover.oenc_cl _ _) (by simp [freshO]) ?_
    simp -dsimp -implicitDefEqProofs [lt_t hlt, partly_len hk, take_full, setAt, hd, hs]
    exact ⟨hlt, inI_succ hlt hlen, k + 1, hlt, by omega, by apply le_of <;> simp [AV.refs1, AV.ref0, Obj.refs1, Obj.leO]⟩
  · simp -dsimp -implicitDefEqProofs [lt_f hge]
    intro _
    rw [partly_all hge, take_full]
def nk_MoverS (r : List Mover) : Nat := cnt nM r
def fk_MoverS (k : Int) (r : List Mover) : List C := [.ot 3 (seqM fM nM k r)]
theorem markMoverSS_c (xs : List (List Mover)) (k : Int) (h0 : 0 ≤ k) (h1 : k + cnt nk_MoverS xs ≤ 8000000000000000000) :
    InF Tryz.prog n_laws_markMoverSS (.c (ct 1 (xs.map eo_MoverS))) (.c (ct 1 (seqM fk_MoverS nk_MoverS k xs))) [.c (.i k)] (.c (.i (k + cnt nk_MoverS xs))) := by
  rcases Nat.eq_zero_or_pos xs.length with hx | hx
  · have : xs = [] := List.length_eq_zero_iff.1 hx
    subst this
    refine in_of h_laws_markMoverSS (by simp) (by simp) rfl fun hwf => ?_
    simp -dsimp -implicitDefEqProofs [c_laws_markMoverSS, seqM, cnt]
    refine loop_rule (ι := Unit) (fun _ => True) (fun _ => stOf [(0, .c (.sl 1 [])), (1, .c (.i k)), (5, .c (.i 0)), (1000000, .c (.sl 1 []))] []) (fun _ => 0) () trivial (by apply le_of <;> simp [AV.refs1, AV.ref0, Obj.refs1]) ?_
    rintro _ _
    simp -dsimp -implicitDefEqProofs
  · rw [ct_pos (by simpa using hx), ct_pos (by rw [seqM_len]; exact hx)]
    refine in_of h_laws_markMoverSS (by simp) (by simp) rfl fun hwf => ?_
    simp -dsimp -implicitDefEqProofs [c_laws_markMoverSS]
    refine loop_rule (ι := Nat) (fun i => i ≤ xs.length) (fun i => stOf [(0, .own 0 1 xs.length), (1, .c (.i (k + cntTo nk_MoverS xs i))), (5, .c (.i i)), (1000000, .own 0 1 xs.length)] [(0, .tr 1 0 (seqTo fk_MoverS eo_MoverS nk_MoverS k xs i))]) (fun i => xs.length - i) 0 (by simp) (by apply le_of <;> simp [AV.refs1, AV.ref0, Obj.refs1, seqTo_zero, cntTo_zero, Obj.leO]) ?_
    rintro i hi
    rcases Nat.lt_or_ge i xs.length with hlt | hge
    · obtain ⟨e, he⟩ : ∃ e, xs[i]? = some e := ⟨_, List.getElem?_eq_getElem hlt⟩
      have hg := seqTo_get (f := fk_MoverS) (g := eo_MoverS) (n := nk_MoverS) (k := k) he
      have hl := seqTo_len (f := fk_MoverS) (g := eo_MoverS) (n := nk_MoverS) (k := k) (xs := xs) (i := i)
      have hs := seqTo_set (f := fk_MoverS) (g := eo_MoverS) (n := nk_MoverS) (k := k) he
      have hc := cntTo_succ (n := nk_MoverS) he
      have hle := cntTo_le (n := nk_MoverS) (xs := xs) (i := i + 1)
      have hn : nk_MoverS e = cnt nM e := rfl
      generalize hM : seqTo fk_MoverS eo_MoverS nk_MoverS k xs i = M at *
      generalize hK : (k + (cntTo nk_MoverS xs i : Int)) = K at *
      have hlt2 : i < M.length := by omega
      have g1 : M[i] = eo_MoverS e := (List.getElem?_eq_some_iff.1 hg).2
      have hself : ∀ a, (M.set i a)[i]? = some a := fun a => List.getElem?_set_self hlt2
      have hgetD : ∀ a, (M.set i a)[i]?.getD [] = a := fun a => by rw [hself]; rfl
      simp only [eo_MoverS] at hg g1
      have hk : 0 ≤ K := by omega
      simp -dsimp -implicitDefEqProofs [lt_t hlt, hg, hl, hlt2, g1, hself, setAt]
      intro hlen
      repeat (refine ⟨by first | exact hlt | (unfold inI; omega) | exact tm_in (by omega), ?_⟩)
      refine call_inSub (k0 := 1) (j := 0) (i := (i : Int)) (r := [.ot 3 (e.map Mover.oenc)]) (c := .ot 3 (e.map Mover.oenc)) (c' := .ot 3 (seqM fM nM K e)) (markMoverS_c e (K) (by omega) (by omega)) (by simp) rfl rfl rfl (by first | exact hself _ | simpa using hg) rfl ⟨_, by rw [seqM_len]; simp, rfl, rfl, rfl⟩ (by simp [C.sz]) ?_
      simp -dsimp -implicitDefEqProofs [setAt, hself, hlt2, hl]
      repeat (refine ⟨by first | exact hlt | (unfold inI; omega) | exact tm_in (by omega) | exact inI_succ hlt hlen, ?_⟩)
      refine ⟨i + 1, hlt, by omega, ?_⟩
      simp only [fk_MoverS] at hs
      apply le_of <;> simp [AV.refs1, AV.ref0, Obj.refs1, Obj.leO, hs, hself] <;> omega
    · have : i = xs.length := by omega
      subst this
      simp -dsimp -implicitDefEqProofs
      intro _
      rw [seqTo_all (Nat.le_refl _), cntTo_all (Nat.le_refl _), List.take_of_length_le (by rw [seqM_len]; exact Nat.le_refl _)]
      exact ⟨rfl, rfl⟩
@[simp] def Passing.oenc (e : Passing) : List C := [.i e.Time, .i e.Work, .b e.Train.Up, .ot 1 (e.Train.Rows.map eo_BoatS)]
theorem Passing.oenc_shr (e : Passing) : shrl e.oenc = some e.enc := by simp [Passing.oenc, shrl, cshr_ot eo_BoatS_shr]
theorem Passing.oenc_cl (e : Passing) : ∀ c ∈ e.oenc, c.closed := by
  simp only [Passing.oenc, List.mem_cons, List.not_mem_nil, or_false, forall_eq_or_imp, forall_eq]
  exact ⟨by simp [C.closed], by simp [C.closed], by simp [C.closed], cl_map eo_BoatS_cl _ _⟩
theorem toPassing_o (e : Passing) (hl : Passing.small e) : OwnF Tryz.prog n_laws_toPassing [.agg (e.enc.map .c)] (.agg (e.oenc.map .c)) := by
  refine own_of h_laws_toPassing (by simp) fun hwf => ?_
  simp -dsimp -implicitDefEqProofs [c_laws_toPassing]
  first
    | refine call_own (toTrain_o e.Train hl) (by simp) (cl_agg (Train.oenc_cl _)) (by simp [freshO]) ?_
    | refine callE_own (toTrain_o e.Train hl) (by simp) (cl_agg (Train.oenc_cl _)) (by simp [freshO]) ?_
  simp -dsimp -implicitDefEqProofs [take_full]
theorem toPassingS_o (xs : List Passing) (hl : small_PassingS xs) : OwnF Tryz.prog n_laws_toPassingS [.c (.sl 4 (xs.map Passing.enc))] (.c (.ot 4 (xs.map Passing.oenc))) := by
  refine own_of h_laws_toPassingS (by simp) fun hwf => ?_
  simp -dsimp -implicitDefEqProofs [c_laws_toPassingS]
  intro hlen
  have hl1 := hl.1
  refine ⟨by omega, ?_⟩
  refine loop_rule (ι := Nat) (fun k => k ≤ xs.length) (fun k => stOf [(0, .c (.sl 4 (xs.map Passing.enc))), (3, .own 7 4 xs.length), (4, .c (.i k))] [(7, .tr 4 0 (partly Passing.oenc [.i 0, .i 0, .b false, .sl 1 []] xs k))]) (fun k => xs.length - k) 0 (by simp) (by apply le_of <;> simp [AV.refs1, AV.ref0, Obj.refs1, partly_zero, Obj.leO]) ?_
  rintro k hk
  rcases Nat.lt_or_ge k xs.length with hlt | hge
  · obtain ⟨e, he⟩ : ∃ e, xs[k]? = some e := ⟨_, List.getElem?_eq_getElem hlt⟩
    have hs := partly_set (f := Passing.oenc) (z := [.i 0, .i 0, .b false, .sl 1 []]) he
    have hd := partly_drop (f := Passing.oenc) (z := [.i 0, .i 0, .b false, .sl 1 []]) (n := 4) rfl hlt
    simp only [Passing.oenc] at hs
    simp -dsimp -implicitDefEqProofs [he, lt_t hlt]
    intro _
    refine call_own (toPassing_o e (hl.2 e (List.mem_of_getElem? he))) (by simp) (cl_agg (Passing.oenc_cl _)) (by simp [freshO]) ?_
    simp -dsimp -implicitDefEqProofs [lt_t hlt, partly_len hk, take_full, hd, hs]
    exact ⟨hlt, inI_succ hlt hlen, k + 1, hlt, by omega, by apply le_of <;> simp [AV.refs1, AV.ref0, Obj.refs1, Obj.leO]⟩
  · simp -dsimp -implicitDefEqProofs [lt_f hge]
    intro _
    rw [partly_all hge, take_full]
def nk_Passing (e : Passing) : Nat := 1 + 1 + 1 + cnt nB e.Train.Rows
def fk_Passing (k : Int) (e : Passing) : List C := [.i k, .i (k + 1), .b (decide ((k + 1 + 1).tmod 3 = 0)), .ot 1 (seqM fB nB (k + 1 + 1 + 1) e.Train.Rows)]
theorem markPassingS_c (xs : List Passing) (k : Int) (h0 : 0 ≤ k) (h1 : k + cnt nk_Passing xs ≤ 8000000000000000000) :
    InF Tryz.prog n_laws_markPassingS (.c (ct 4 (xs.map Passing.oenc))) (.c (ct 4 (seqM fk_Passing nk_Passing k xs))) [.c (.i k)] (.c (.i (k + cnt nk_Passing xs))) := by
  rcases Nat.eq_zero_or_pos xs.length with hx | hx
  · have : xs = [] := List.length_eq_zero_iff.1 hx
    subst this
    refine in_of h_laws_markPassingS (by simp) (by simp) rfl fun hwf => ?_
    simp -dsimp -implicitDefEqProofs [c_laws_markPassingS, seqM, cnt]
    refine loop_rule (ι := Unit) (fun _ => True) (fun _ => stOf [(0, .c (.sl 4 [])), (1, .c (.i k)), (5, .c (.i 0)), (1000000, .c (.sl 4 []))] []) (fun _ => 0) () trivial (by apply le_of <;> simp [AV.refs1, AV.ref0, Obj.refs1]) ?_
    rintro _ _
    simp -dsimp -implicitDefEqProofs
  · rw [ct_pos (by simpa using hx), ct_pos (by rw [seqM_len]; exact hx)]
    refine in_of h_laws_markPassingS (by simp) (by simp) rfl fun hwf => ?_
    simp -dsimp -implicitDefEqProofs [c_laws_markPassingS]
    refine loop_rule (ι := Nat) (fun i => i ≤ xs.length) (fun i => stOf [(0, .own 0 4 xs.length), (1, .c (.i (k + cntTo nk_Passing xs i))), (5, .c (.i i)), (1000000, .own 0 4 xs.length)] [(0, .tr 4 0 (seqTo fk_Passing Passing.oenc nk_Passing k xs i))]) (fun i => xs.length - i) 0 (by simp) (by apply le_of <;> simp [AV.refs1, AV.ref0, Obj.refs1, seqTo_zero, cntTo_zero, Obj.leO]) ?_
    rintro i hi
    rcases Nat.lt_or_ge i xs.length with hlt | hge
    · obtain ⟨e, he⟩ : ∃ e, xs[i]? = some e := ⟨_, List.getElem?_eq_getElem hlt⟩
      have hg := seqTo_get (f := fk_Passing) (g := Passing.oenc) (n := nk_Passing) (k := k) he
      have hl := seqTo_len (f := fk_Passing) (g := Passing.oenc) (n := nk_Passing) (k := k) (xs := xs) (i := i)
      have hs := seqTo_set (f := fk_Passing) (g := Passing.oenc) (n := nk_Passing) (k := k) he
      have hc := cntTo_succ (n := nk_Passing) he
      have hle := cntTo_le (n := nk_Passing) (xs := xs) (i := i + 1)
      have hn : nk_Passing e = 1 + 1 + 1 + cnt nB e.Train.Rows := rfl
      generalize hM : seqTo fk_Passing Passing.oenc nk_Passing k xs i = M at *
      generalize hK : (k + (cntTo nk_Passing xs i : Int)) = K at *
      have hlt2 : i < M.length := by omega
      have g1 : M[i] = Passing.oenc e := (List.getElem?_eq_some_iff.1 hg).2
      have hself : ∀ a, (M.set i a)[i]? = some a := fun a => List.getElem?_set_self hlt2
      have hgetD : ∀ a, (M.set i a)[i]?.getD [] = a := fun a => by rw [hself]; rfl
      simp only [Passing.oenc] at hg g1
      have hk : 0 ≤ K := by omega
      simp -dsimp -implicitDefEqProofs [lt_t hlt, hg, hl, hlt2, g1, hself, setAt]
      intro hlen
      repeat (refine ⟨by first | exact hlt | (unfold inI; omega) | exact tm_in (by omega), ?_⟩)
      refine call_inSub (k0 := 4) (j := 3) (i := (i : Int)) (r := [.i K, .i (K + 1), .b (decide ((K + 1 + 1).tmod 3 = 0)), .ot 1 (e.Train.Rows.map eo_BoatS)]) (c := .ot 1 (e.Train.Rows.map eo_BoatS)) (c' := .ot 1 (seqM fB nB (K + 1 + 1 + 1) e.Train.Rows)) (markBoatSS_c e.Train.Rows (K + 1 + 1 + 1) (by omega) (by omega)) (by simp) rfl rfl rfl (by first | exact hself _ | simpa using hg) rfl ⟨_, by rw [seqM_len]; simp, rfl, rfl, rfl⟩ (by simp [C.sz]) ?_
      simp -dsimp -implicitDefEqProofs [setAt, hself, hlt2, hl]
      repeat (refine ⟨by first | exact hlt | (unfold inI; omega) | exact tm_in (by omega) | exact inI_succ hlt hlen, ?_⟩)
      refine ⟨i + 1, hlt, by omega, ?_⟩
      simp only [fk_Passing] at hs
      apply le_of <;> simp [AV.refs1, AV.ref0, Obj.refs1, Obj.leO, hs, hself] <;> omega
    · have : i = xs.length := by omega
      subst this
      simp -dsimp -implicitDefEqProofs
      intro _
      rw [seqTo_all (Nat.le_refl _), cntTo_all (Nat.le_refl _), List.take_of_length_le (by rw [seqM_len]; exact Nat.le_refl _)]
      exact ⟨rfl, rfl⟩
@[simp] def Waterway.oenc (e : Waterway) : List C := [.i e.Time, .ot 3 (e.Reaches.map Reach.oenc), .ow 2 (e.Ways.map Way.enc), .ot 22 (e.Works.map Work.oenc), .ot 1 (e.Movers.map eo_MoverS), .ot 2 (e.Arrived.map Train.oenc), .ow 1 (e.Entered.map ienc), .i e.Tariff.Base, .i e.Tariff.PerArea, .ow 1 (e.Tariff.PerClass.map ienc), .ow 1 (e.Tariff.Weights.map ienc), .ow 5 (e.Book.map Entry.enc), .ot 4 (e.Passings.map Passing.oenc), .i e.Start, .i e.In, .i e.Out]
theorem Waterway.oenc_shr (e : Waterway) : shrl e.oenc = some e.enc := by simp [Waterway.oenc, shrl, cshr_ot Reach.oenc_shr, cshr_ot Work.oenc_shr, cshr_ot eo_MoverS_shr, cshr_ot Train.oenc_shr, cshr_ot Passing.oenc_shr]
theorem Waterway.oenc_cl (e : Waterway) : ∀ c ∈ e.oenc, c.closed := by
  simp only [Waterway.oenc, List.mem_cons, List.not_mem_nil, or_false, forall_eq_or_imp, forall_eq]
  exact ⟨by simp [C.closed], cl_map Reach.oenc_cl _ _, by simp [C.closed], cl_map Work.oenc_cl _ _, cl_map eo_MoverS_cl _ _, cl_map Train.oenc_cl _ _, by simp [C.closed], by simp [C.closed], by simp [C.closed], by simp [C.closed], by simp [C.closed], by simp [C.closed], cl_map Passing.oenc_cl _ _, by simp [C.closed], by simp [C.closed], by simp [C.closed]⟩
set_option maxRecDepth 20000 in
theorem toWaterway_o (e : Waterway) (hl : Waterway.small e) : OwnF Tryz.prog n_laws_toWaterway [.agg (e.enc.map .c)] (.agg (e.oenc.map .c)) := by
  refine own_of h_laws_toWaterway (by simp) fun hwf => ?_
  simp -dsimp -implicitDefEqProofs [c_laws_toWaterway]
  first
    | refine call_own (toReachS_o e.Reaches hl.1) (by simp) (cl_map Reach.oenc_cl _ _) (by simp [freshO]) ?_
    | refine callE_own (toReachS_o e.Reaches hl.1) (by simp) (cl_map Reach.oenc_cl _ _) (by simp [freshO]) ?_
  simp -dsimp -implicitDefEqProofs [take_full]
  first
    | refine call_own (toWayS_o e.Ways hl.2.1) (by simp) (by simp [AV.closed, AV.closed1, C.closed]) (by simp [freshO]) ?_
    | refine callE_own (toWayS_o e.Ways hl.2.1) (by simp) (by simp [AV.closed, AV.closed1, C.closed]) (by simp [freshO]) ?_
  simp -dsimp -implicitDefEqProofs [take_full]
  first
    | refine call_own (toWorkS_o e.Works hl.2.2.1) (by simp) (cl_map Work.oenc_cl _ _) (by simp [freshO]) ?_
    | refine callE_own (toWorkS_o e.Works hl.2.2.1) (by simp) (cl_map Work.oenc_cl _ _) (by simp [freshO]) ?_
  simp -dsimp -implicitDefEqProofs [take_full]
  first
    | refine call_own (toMoverSS_o e.Movers hl.2.2.2.1) (by simp) (cl_map eo_MoverS_cl _ _) (by simp [freshO]) ?_
    | refine callE_own (toMoverSS_o e.Movers hl.2.2.2.1) (by simp) (cl_map eo_MoverS_cl _ _) (by simp [freshO]) ?_
  simp -dsimp -implicitDefEqProofs [take_full]
  first
    | refine call_own (toTrainS_o e.Arrived hl.2.2.2.2.1) (by simp) (cl_map Train.oenc_cl _ _) (by simp [freshO]) ?_
    | refine callE_own (toTrainS_o e.Arrived hl.2.2.2.2.1) (by simp) (cl_map Train.oenc_cl _ _) (by simp [freshO]) ?_
  simp -dsimp -implicitDefEqProofs [take_full]
  first
    | refine call_own (toIntS_o e.Entered hl.2.2.2.2.2.1.1) (by simp) (by simp [AV.closed, AV.closed1, C.closed]) (by simp [freshO]) ?_
    | refine callE_own (toIntS_o e.Entered hl.2.2.2.2.2.1.1) (by simp) (by simp [AV.closed, AV.closed1, C.closed]) (by simp [freshO]) ?_
  simp -dsimp -implicitDefEqProofs [take_full]
  first
    | refine call_own (toTariff_o e.Tariff hl.2.2.2.2.2.2.1) (by simp) (cl_agg (Tariff.oenc_cl _)) (by simp [freshO]) ?_
    | refine callE_own (toTariff_o e.Tariff hl.2.2.2.2.2.2.1) (by simp) (cl_agg (Tariff.oenc_cl _)) (by simp [freshO]) ?_
  simp -dsimp -implicitDefEqProofs [take_full]
  first
    | refine call_own (toEntryS_o e.Book hl.2.2.2.2.2.2.2.1.1) (by simp) (by simp [AV.closed, AV.closed1, C.closed]) (by simp [freshO]) ?_
    | refine callE_own (toEntryS_o e.Book hl.2.2.2.2.2.2.2.1.1) (by simp) (by simp [AV.closed, AV.closed1, C.closed]) (by simp [freshO]) ?_
  simp -dsimp -implicitDefEqProofs [take_full]
  first
    | refine call_own (toPassingS_o e.Passings hl.2.2.2.2.2.2.2.2) (by simp) (cl_map Passing.oenc_cl _ _) (by simp [freshO]) ?_
    | refine callE_own (toPassingS_o e.Passings hl.2.2.2.2.2.2.2.2) (by simp) (cl_map Passing.oenc_cl _ _) (by simp [freshO]) ?_
  simp -dsimp -implicitDefEqProofs [take_full]
def totSS {α : Type} (t : α → Nat) (xs : List α) : Nat := xs.length + (xs.map t).sum
def SzTot {α : Type} (f : α → Int → Int) (t : α → Nat) : Prop := ∀ x l, 0 ≤ l → l ≤ 1048576 → 0 ≤ f x l → f x l + t x ≤ l
theorem andSz_ge {a : Int} {f : Int → Int} (h : 0 ≤ andSz a f) : 0 ≤ a ∧ andSz a f = f a := by
  rcases Int.lt_or_le a 0 with e | e
  · rw [andSz_neg e] at h; omega
  · exact ⟨e, andSz_pos e⟩
theorem szS_tot {α : Type} : SzTot (fun (xs : List α) l => szS xs.length l) (fun xs => xs.length) := by
  intro xs l h0 h1 h
  simp only [szS] at h ⊢
  split at h
  · omega
  · rename_i h2; rw [if_neg h2]; omega
theorem foldSz_tot {α : Type} {f : α → Int → Int} {t : α → Nat} (hf : SzTot f t) : ∀ (xs : List α) (l : Int), 0 ≤ l → l ≤ 1048576 → 0 ≤ foldSz f xs l → foldSz f xs l + ((xs.map t).sum : Nat) ≤ l
  | [], l, _, _, _ => by simp [foldSz]
  | x :: xs, l, h0, h1, h => by
    simp only [foldSz] at h ⊢
    obtain ⟨p, e⟩ := andSz_ge h
    rw [e] at h ⊢
    have h2 := hf x l h0 h1 p
    have h3 := foldSz_tot hf xs (f x l) p (by omega) h
    simp only [List.map_cons, List.sum_cons, Int.natCast_add]; omega
theorem szSS_tot {α : Type} {f : α → Int → Int} {t : α → Nat} (hf : SzTot f t) : SzTot (szSS f) (totSS t) := by
  intro xs l h0 h1 h
  unfold szSS at h ⊢
  obtain ⟨p, e⟩ := andSz_ge h
  rw [e] at h ⊢
  have h2 := szS_tot xs l h0 h1 p
  have h3 := foldSz_tot hf xs _ p (by simp only at h2 ⊢; omega) h
  unfold totSS
  simp only at h2
  omega
theorem cnt_tot {α : Type} {n t : α → Nat} (h : ∀ x, n x ≤ 27 * (1 + t x)) : ∀ xs : List α, cnt n xs ≤ 27 * totSS t xs
  | [] => by simp [cnt]
  | x :: xs => by
    have h1 := cnt_tot h xs
    have h2 := h x
    simp only [cnt, totSS, List.map_cons, List.sum_cons, List.length_cons] at h1 ⊢
    omega
def tot_IntS (xs : List Int) : Nat := xs.length
theorem tot_IntS_ok : SzTot sz_IntS tot_IntS := szS_tot
def tot_EntryS (xs : List Entry) : Nat := xs.length
theorem tot_EntryS_ok : SzTot sz_EntryS tot_EntryS := szS_tot
def tot_BoatS (xs : List Boat) : Nat := xs.length
theorem tot_BoatS_ok : SzTot sz_BoatS tot_BoatS := szS_tot
def tot_BoatSS : List (List Boat) → Nat := totSS tot_BoatS
theorem tot_BoatSS_ok : SzTot sz_BoatSS tot_BoatSS := szSS_tot tot_BoatS_ok
theorem nB_le (r : List Boat) : nB r ≤ 27 * (1 + tot_BoatS r) := by unfold nB tot_BoatS; omega
def tot_Train (e : Train) : Nat := tot_BoatSS e.Rows
theorem tot_Train_ok : SzTot sz_Train tot_Train := by
  intro e l h0 h1 h
  unfold sz_Train at h ⊢
  obtain ⟨p0, e0⟩ := andSz_ge h
  rw [e0] at h ⊢
  have t0 := tot_BoatSS_ok e.Rows _ h0 h1 p0
  unfold tot_Train
  omega
def tot_PointS (xs : List Point) : Nat := xs.length
theorem tot_PointS_ok : SzTot sz_PointS tot_PointS := szS_tot
def tot_Reach (e : Reach) : Nat := tot_PointS e.Table + tot_IntS e.Pipe
theorem tot_Reach_ok : SzTot sz_Reach tot_Reach := by
  intro e l h0 h1 h
  unfold sz_Reach at h ⊢
  obtain ⟨p0, e0⟩ := andSz_ge h
  rw [e0] at h ⊢
  have t0 := tot_PointS_ok e.Table _ h0 h1 p0
  obtain ⟨p1, e1⟩ := andSz_ge h
  rw [e1] at h ⊢
  have t1 := tot_IntS_ok e.Pipe _ p0 (by omega) p1
  unfold tot_Reach
  omega
def tot_ReachS : List Reach → Nat := totSS tot_Reach
theorem tot_ReachS_ok : SzTot sz_ReachS tot_ReachS := szSS_tot tot_Reach_ok
theorem nk_Reach_le (e : Reach) : nk_Reach e ≤ 27 * (1 + tot_Reach e) := by
  have : tot_PointS e.Table = e.Table.length := rfl
  have : tot_IntS e.Pipe = e.Pipe.length := rfl
  simp only [nk_Reach, tot_Reach]
  omega
def tot_WayS (xs : List Way) : Nat := xs.length
theorem tot_WayS_ok : SzTot sz_WayS tot_WayS := szS_tot
def tot_PauseS (xs : List Pause) : Nat := xs.length
theorem tot_PauseS_ok : SzTot sz_PauseS tot_PauseS := szS_tot
def tot_TrainS : List Train → Nat := totSS tot_Train
theorem tot_TrainS_ok : SzTot sz_TrainS tot_TrainS := szSS_tot tot_Train_ok
theorem nk_Train_le (e : Train) : nk_Train e ≤ 27 * (1 + tot_Train e) := by
  have := cnt_tot nB_le e.Rows
  simp only [nk_Train, tot_Train, tot_BoatSS]
  omega
def tot_Lock (e : Lock) : Nat := tot_TrainS e.Inside
theorem tot_Lock_ok : SzTot sz_Lock tot_Lock := by
  intro e l h0 h1 h
  unfold sz_Lock at h ⊢
  obtain ⟨p0, e0⟩ := andSz_ge h
  rw [e0] at h ⊢
  have t0 := tot_TrainS_ok e.Inside _ h0 h1 p0
  unfold tot_Lock
  omega
def tot_Call (e : CallT) : Nat := tot_Train e.Train
theorem tot_Call_ok : SzTot sz_Call tot_Call := by
  intro e l h0 h1 h
  unfold sz_Call at h ⊢
  obtain ⟨p0, e0⟩ := andSz_ge h
  rw [e0] at h ⊢
  have t0 := tot_Train_ok e.Train _ h0 h1 p0
  unfold tot_Call
  omega
def tot_CallS : List CallT → Nat := totSS tot_Call
theorem tot_CallS_ok : SzTot sz_CallS tot_CallS := szSS_tot tot_Call_ok
theorem nk_Call_le (e : CallT) : nk_Call e ≤ 27 * (1 + tot_Call e) := by
  have := cnt_tot nB_le e.Train.Rows
  simp only [nk_Call, tot_Call, tot_Train, tot_BoatSS]
  omega
def tot_Work (e : Work) : Nat := tot_Lock e.Lock + tot_PauseS e.Pauses + tot_CallS e.Calls
theorem tot_Work_ok : SzTot sz_Work tot_Work := by
  intro e l h0 h1 h
  unfold sz_Work at h ⊢
  obtain ⟨p0, e0⟩ := andSz_ge h
  rw [e0] at h ⊢
  have t0 := tot_Lock_ok e.Lock _ h0 h1 p0
  obtain ⟨p1, e1⟩ := andSz_ge h
  rw [e1] at h ⊢
  have t1 := tot_PauseS_ok e.Pauses _ p0 (by omega) p1
  obtain ⟨p2, e2⟩ := andSz_ge h
  rw [e2] at h ⊢
  have t2 := tot_CallS_ok e.Calls _ p1 (by omega) p2
  unfold tot_Work
  omega
def tot_WorkS : List Work → Nat := totSS tot_Work
theorem tot_WorkS_ok : SzTot sz_WorkS tot_WorkS := szSS_tot tot_Work_ok
theorem nk_Work_le (e : Work) : nk_Work e ≤ 27 * (1 + tot_Work e) := by
  have := cnt_tot nk_Train_le e.Lock.Inside
  have : tot_PauseS e.Pauses = e.Pauses.length := rfl
  have := cnt_tot nk_Call_le e.Calls
  simp only [nk_Work, tot_Work, tot_Lock, tot_TrainS, tot_CallS]
  omega
def tot_Mover (e : Mover) : Nat := tot_Train e.Train
theorem tot_Mover_ok : SzTot sz_Mover tot_Mover := by
  intro e l h0 h1 h
  unfold sz_Mover at h ⊢
  obtain ⟨p0, e0⟩ := andSz_ge h
  rw [e0] at h ⊢
  have t0 := tot_Train_ok e.Train _ h0 h1 p0
  unfold tot_Mover
  omega
def tot_MoverS : List Mover → Nat := totSS tot_Mover
theorem tot_MoverS_ok : SzTot sz_MoverS tot_MoverS := szSS_tot tot_Mover_ok
theorem nM_le (e : Mover) : nM e ≤ 27 * (1 + tot_Mover e) := by
  have := cnt_tot nB_le e.Train.Rows
  simp only [nM, tot_Mover, tot_Train, tot_BoatSS]
  omega
def tot_MoverSS : List (List Mover) → Nat := totSS tot_MoverS
theorem tot_MoverSS_ok : SzTot sz_MoverSS tot_MoverSS := szSS_tot tot_MoverS_ok
theorem nk_MoverS_le (r : List Mover) : nk_MoverS r ≤ 27 * (1 + tot_MoverS r) := by have := cnt_tot nM_le r; unfold nk_MoverS tot_MoverS; omega
def tot_Tariff (e : Tariff) : Nat := tot_IntS e.PerClass + tot_IntS e.Weights
theorem tot_Tariff_ok : SzTot sz_Tariff tot_Tariff := by
  intro e l h0 h1 h
  unfold sz_Tariff at h ⊢
  obtain ⟨p0, e0⟩ := andSz_ge h
  rw [e0] at h ⊢
  have t0 := tot_IntS_ok e.PerClass _ h0 h1 p0
  obtain ⟨p1, e1⟩ := andSz_ge h
  rw [e1] at h ⊢
  have t1 := tot_IntS_ok e.Weights _ p0 (by omega) p1
  unfold tot_Tariff
  omega
def tot_Passing (e : Passing) : Nat := tot_Train e.Train
theorem tot_Passing_ok : SzTot sz_Passing tot_Passing := by
  intro e l h0 h1 h
  unfold sz_Passing at h ⊢
  obtain ⟨p0, e0⟩ := andSz_ge h
  rw [e0] at h ⊢
  have t0 := tot_Train_ok e.Train _ h0 h1 p0
  unfold tot_Passing
  omega
def tot_PassingS : List Passing → Nat := totSS tot_Passing
theorem tot_PassingS_ok : SzTot sz_PassingS tot_PassingS := szSS_tot tot_Passing_ok
theorem nk_Passing_le (e : Passing) : nk_Passing e ≤ 27 * (1 + tot_Passing e) := by
  have := cnt_tot nB_le e.Train.Rows
  simp only [nk_Passing, tot_Passing, tot_Train, tot_BoatSS]
  omega
def tot_Waterway (e : Waterway) : Nat := tot_ReachS e.Reaches + tot_WayS e.Ways + tot_WorkS e.Works + tot_MoverSS e.Movers + tot_TrainS e.Arrived + tot_IntS e.Entered + tot_Tariff e.Tariff + tot_EntryS e.Book + tot_PassingS e.Passings
theorem tot_Waterway_ok : SzTot sz_Waterway tot_Waterway := by
  intro e l h0 h1 h
  unfold sz_Waterway at h ⊢
  obtain ⟨p0, e0⟩ := andSz_ge h
  rw [e0] at h ⊢
  have t0 := tot_ReachS_ok e.Reaches _ h0 h1 p0
  obtain ⟨p1, e1⟩ := andSz_ge h
  rw [e1] at h ⊢
  have t1 := tot_WayS_ok e.Ways _ p0 (by omega) p1
  obtain ⟨p2, e2⟩ := andSz_ge h
  rw [e2] at h ⊢
  have t2 := tot_WorkS_ok e.Works _ p1 (by omega) p2
  obtain ⟨p3, e3⟩ := andSz_ge h
  rw [e3] at h ⊢
  have t3 := tot_MoverSS_ok e.Movers _ p2 (by omega) p3
  obtain ⟨p4, e4⟩ := andSz_ge h
  rw [e4] at h ⊢
  have t4 := tot_TrainS_ok e.Arrived _ p3 (by omega) p4
  obtain ⟨p5, e5⟩ := andSz_ge h
  rw [e5] at h ⊢
  have t5 := tot_IntS_ok e.Entered _ p4 (by omega) p5
  obtain ⟨p6, e6⟩ := andSz_ge h
  rw [e6] at h ⊢
  have t6 := tot_Tariff_ok e.Tariff _ p5 (by omega) p6
  obtain ⟨p7, e7⟩ := andSz_ge h
  rw [e7] at h ⊢
  have t7 := tot_EntryS_ok e.Book _ p6 (by omega) p7
  obtain ⟨p8, e8⟩ := andSz_ge h
  rw [e8] at h ⊢
  have t8 := tot_PassingS_ok e.Passings _ p7 (by omega) p8
  unfold tot_Waterway
  omega
def hsW (x : Waterway) : List H := [.p (.i x.Time), .t 3 (x.Reaches.map Reach.oenc), .w 2 (x.Ways.map Way.enc), .t 22 (x.Works.map Work.oenc), .t 1 (x.Movers.map eo_MoverS), .t 2 (x.Arrived.map Train.oenc), .w 1 (x.Entered.map ienc),
  .p (.i x.Tariff.Base), .p (.i x.Tariff.PerArea), .w 1 (x.Tariff.PerClass.map ienc), .w 1 (x.Tariff.Weights.map ienc), .w 5 (x.Book.map Entry.enc), .t 4 (x.Passings.map Passing.oenc), .p (.i x.Start), .p (.i x.In), .p (.i x.Out)]
def wm1 (x : Waterway) (k : Int) : Int := k + cnt nk_Reach x.Reaches
def wm2 (x : Waterway) (k : Int) : Int := wm1 x k + 2 * x.Ways.length
def wm3 (x : Waterway) (k : Int) : Int := wm2 x k + cnt nk_Work x.Works
def wm4 (x : Waterway) (k : Int) : Int := wm3 x k + cnt nk_MoverS x.Movers
def wm5 (x : Waterway) (k : Int) : Int := wm4 x k + cnt nk_Train x.Arrived
def wm6 (x : Waterway) (k : Int) : Int := wm5 x k + x.Entered.length
def wm7 (x : Waterway) (k : Int) : Int := wm6 x k + nT x.Tariff
def wm8 (x : Waterway) (k : Int) : Int := wm7 x k + 5 * x.Book.length
def wm9 (x : Waterway) (k : Int) : Int := wm8 x k + cnt nk_Passing x.Passings
def hsM (x : Waterway) (k : Int) : List H := [.p (.i x.Time), .t 3 (seqM fk_Reach nk_Reach k x.Reaches), .w 2 (marked mk_Way 2 [] (wm1 x k) x.Ways.length), .t 22 (seqM fk_Work nk_Work (wm2 x k) x.Works), .t 1 (seqM fk_MoverS nk_MoverS (wm3 x k) x.Movers), .t 2 (seqM fk_Train nk_Train (wm4 x k) x.Arrived), .w 1 (marked ienc 1 [] (wm5 x k) x.Entered.length),
  .p (.i x.Tariff.Base), .p (.i x.Tariff.PerArea), .w 1 (marked ienc 1 [] (wm6 x k) x.Tariff.PerClass.length), .w 1 (marked ienc 1 [] (wm6 x k + x.Tariff.PerClass.length) x.Tariff.Weights.length), .w 5 (marked mkEn 5 [] (wm7 x k) x.Book.length), .t 4 (seqM fk_Passing nk_Passing (wm8 x k) x.Passings), .p (.i x.Start), .p (.i x.In), .p (.i x.Out)]
theorem hv_marked {id k n : Nat} {mk : Int → List C} {c j : Int} {rows : List (List C)} (h : n = rows.length) : hv id k (marked mk c [] j n) = hv id k rows := hv_len (by rw [marked_n, h])
theorem hv_seqM {α : Type} {id k : Nat} {f : Int → α → List C} {n : α → Nat} {j : Int} {g : α → List C} {xs : List α} : hv id k (seqM f n j xs) = hv id k (xs.map g) := hv_len (by rw [seqM_len, List.length_map])
structure WkB (x : Waterway) (k : Int) : Prop where
  b0 : 0 ≤ k
  b1 : k ≤ wm1 x k
  b2 : wm1 x k ≤ wm2 x k
  b3 : wm2 x k ≤ wm3 x k
  b4 : wm3 x k ≤ wm4 x k
  b5 : wm4 x k ≤ wm5 x k
  b6 : wm5 x k ≤ wm6 x k
  b7 : wm6 x k ≤ wm7 x k
  b8 : wm7 x k ≤ wm8 x k
  b9 : wm8 x k ≤ wm9 x k
theorem wkB (x : Waterway) {k : Int} (h : 0 ≤ k) : WkB x k := by
  refine ⟨h, ?_, ?_, ?_, ?_, ?_, ?_, ?_, ?_, ?_⟩ <;> simp only [wm1, wm2, wm3, wm4, wm5, wm6, wm7, wm8, wm9, nT] <;> omega
set_option maxRecDepth 20000 in
theorem markWaterway_c (x : Waterway) (k : Int) (h0 : 0 ≤ k) (h1 : wm9 x k ≤ 4000000000000000000) :
    InF Tryz.prog n_laws_markWaterway (.agg (((hsW x).map H.c).map .c)) (.agg (((hsM x k).map H.c).map .c)) [.c (.i k)] (.c (.i (wm9 x k))) := by
  obtain ⟨b0, b1, b2, b3, b4, b5, b6, b7, b8, b9⟩ := wkB x h0
  have e1 : wm1 x k = k + cnt nk_Reach x.Reaches := rfl
  have e2 : wm2 x k = wm1 x k + 2 * x.Ways.length := rfl
  have e3 : wm3 x k = wm2 x k + cnt nk_Work x.Works := rfl
  have e4 : wm4 x k = wm3 x k + cnt nk_MoverS x.Movers := rfl
  have e5 : wm5 x k = wm4 x k + cnt nk_Train x.Arrived := rfl
  have e6 : wm6 x k = wm5 x k + x.Entered.length := rfl
  have e7 : wm7 x k = wm6 x k + nT x.Tariff := rfl
  have e8 : wm8 x k = wm7 x k + 5 * x.Book.length := rfl
  have e9 : wm9 x k = wm8 x k + cnt nk_Passing x.Passings := rfl
  have m1 := markReachS_c x.Reaches k h0 (by omega)
  have m2 := markWayS_c x.Ways (wm1 x k) (by omega) (by omega)
  have m3 := markWorkS_c x.Works (wm2 x k) (by omega) (by omega)
  have m4 := markMoverSS_c x.Movers (wm3 x k) (by omega) (by omega)
  have m5 := markTrainS_c x.Arrived (wm4 x k) (by omega) (by omega)
  have m6 := markIntS_c x.Entered (wm5 x k) (by omega) (by omega)
  have m7 := markTariff_c x.Tariff (wm6 x k) (by omega) (by omega)
  have m8 := markEntryS_c x.Book (wm7 x k) (by omega) (by omega)
  have m9 := markPassingS_c x.Passings (wm8 x k) (by omega) (by omega)
  rw [← e1] at m1; rw [← e2] at m2; rw [← e3] at m3; rw [← e4] at m4; rw [← e5] at m5; rw [← e6] at m6; rw [← e7] at m7; rw [← e8] at m8; rw [← e9] at m9
  refine in_ofH h_laws_markWaterway (by simp) (by simp [hsW, okH, H.ok]) rfl fun hwf => ?_
  simp -dsimp -implicitDefEqProofs [c_laws_markWaterway, hsW]
  refine call_in1t (ver := 0) m1 (by simp) (by simp [seqM_len]) (by simp) rfl rfl ?_
  simp -dsimp -implicitDefEqProofs
  refine call_in1w m2 (by simp) (by simp [marked_n]) (by simp) rfl rfl ?_
  simp -dsimp -implicitDefEqProofs
  refine call_in1t (ver := 0) m3 (by simp) (by simp [seqM_len]) (by simp) rfl rfl ?_
  simp -dsimp -implicitDefEqProofs
  refine call_in1t (ver := 0) m4 (by simp) (by simp [seqM_len]) (by simp) rfl rfl ?_
  simp -dsimp -implicitDefEqProofs
  refine call_in1t (ver := 0) m5 (by simp) (by simp [seqM_len]) (by simp) rfl rfl ?_
  simp -dsimp -implicitDefEqProofs
  refine call_in1w m6 (by simp) (by simp [marked_n]) (by simp) rfl rfl ?_
  simp -dsimp -implicitDefEqProofs
  refine call_inT m7 (by decide) rfl rfl (by simp) (by simp) (by simp [marked_n]) (by simp [marked_n]) (by simp) rfl rfl ?_
  simp -dsimp -implicitDefEqProofs
  refine call_in1w m8 (by simp) (by simp [marked_n]) (by simp) rfl rfl ?_
  simp -dsimp -implicitDefEqProofs
  refine call_in1t (ver := 0) m9 (by simp) (by simp [seqM_len]) (by simp) rfl rfl ?_
  simp -dsimp -implicitDefEqProofs
  refine inH_of ?_ ?_ ?_
  · simp [hsM]
    exact ⟨hv_seqM.symm, (hv_marked (by simp)).symm, hv_seqM.symm, hv_seqM.symm, hv_seqM.symm, (hv_marked (by simp)).symm, (hv_marked (by simp)).symm, (hv_marked (by simp)).symm, (hv_marked (by simp)).symm, hv_seqM.symm⟩
  · simp [hsM, liesH, lieH]
    exact ⟨⟨1, rfl⟩, ⟨1, rfl⟩, ⟨1, rfl⟩, ⟨1, rfl⟩, ⟨1, rfl⟩⟩
  · simp [resP]
def fl {α : Type} (f : α → List Int) (l : List α) (k : Nat) : List Int := (l.take k).flatMap f
theorem fl_zero {α : Type} {f : α → List Int} {l : List α} : fl f l 0 = [] := rfl
theorem fl_succ {α : Type} {f : α → List Int} {l : List α} {k : Nat} {x : α} (h : l[k]? = some x) : fl f l (k + 1) = fl f l k ++ f x := by
  unfold fl; rw [List.take_succ, h, List.flatMap_append]; simp
theorem fl_all {α : Type} {f : α → List Int} {l : List α} {k : Nat} (h : l.length ≤ k) : fl f l k = l.flatMap f := by
  unfold fl; rw [List.take_of_length_le h]
theorem fl_len {α : Type} {f : α → List Int} {l : List α} {k : Nat} {x : α} (h : l[k]? = some x) : (fl f l k).length + (f x).length ≤ (l.flatMap f).length := by
  have : l.flatMap f = fl f l (k + 1) ++ (l.drop (k + 1)).flatMap f := by
    unfold fl; rw [← List.flatMap_append, List.take_append_drop]
  rw [this, fl_succ h]; simp only [List.length_append]; omega
def movIds (m : Mover) : List Int := IdsOf m.Train
def callIds (c : CallT) : List Int := IdsOf c.Train
def listIds (l : List Mover) : List Int := l.flatMap movIds
def wIds (w : Work) : List Int := w.Calls.flatMap callIds ++ w.Lock.Inside.flatMap IdsOf
def PlacesOf (x : Waterway) : List Int := x.Movers.flatMap listIds ++ x.Works.flatMap wIds ++ x.Arrived.flatMap IdsOf
theorem PlacesOf_len (x : Waterway) : (PlacesOf x).length = (x.Movers.flatMap listIds).length + (x.Works.flatMap wIds).length + (x.Arrived.flatMap IdsOf).length := by
  simp only [PlacesOf, List.length_append]
theorem cat3 {A B D : List Int} : List.take (A.length + (B.length + D.length)) (List.map ienc A ++ (List.map ienc B ++ List.map ienc D)) = List.map ienc (A ++ B ++ D) := by
  rw [List.take_of_length_le (by simp)]; simp
set_option maxRecDepth 20000 in
theorem PlacesOf_spec (x : Waterway) (hs : x.small) (hB : (PlacesOf x).length ≤ 1000000000) : PureF Tryz.prog n_spec_PlacesOf [.agg (x.enc.map .c)] (.c (.sl 1 ((PlacesOf x).map ienc))) := by
  obtain ⟨s1, s2, s3, s4, s5, s6, s7, s8, s9⟩ := hs
  have hP : PlacesOf x = x.Movers.flatMap listIds ++ x.Works.flatMap wIds ++ x.Arrived.flatMap IdsOf := rfl
  rw [PlacesOf_len] at hB
  refine pure_of h_spec_PlacesOf (by simp) fun hwf => ?_
  simp -dsimp -implicitDefEqProofs [c_spec_PlacesOf]
  refine loop_rule (ι := Nat) (fun k => k ≤ x.Movers.length) (fun k => stOf [(1, .box 1 0), (3, .own 10 1 (fl listIds x.Movers k).length), (4, .c (.i k))] [(1, .box (x.enc.map .c)), (10, .row 1 ((fl listIds x.Movers k).map ienc))]) (fun k => x.Movers.length - k) 0 (by simp) (by apply le_of <;> simp [AV.refs1, AV.ref0, Obj.refs1, fl_zero]) ?_
  rintro k hk
  rcases Nat.lt_or_ge k x.Movers.length with klt | kge
  · obtain ⟨l, hl⟩ : ∃ l, x.Movers[k]? = some l := ⟨_, List.getElem?_eq_getElem klt⟩
    have hls := s4.2 l (List.mem_of_getElem? hl)
    have hb1 := fl_len (f := listIds) hl
    have e1 := fl_succ (f := listIds) hl
    simp -dsimp -implicitDefEqProofs [hl, lt_t klt]
    intro hlen
    generalize fl listIds x.Movers k = A at hb1 e1
    refine loop_rule (ι := Nat) (fun j => j ≤ l.length) (fun j => stOf [(1, .box 1 0), (3, .own 10 1 (A ++ fl movIds l j).length), (4, .c (.i k)), (5, .c (.i j))] [(1, .box (x.enc.map .c)), (10, .row 1 ((A ++ fl movIds l j).map ienc))]) (fun j => l.length - j) 0 (by simp) (by apply le_of <;> simp [AV.refs1, AV.ref0, Obj.refs1, fl_zero]) ?_
    rintro j hj
    rcases Nat.lt_or_ge j l.length with jlt | jge
    · obtain ⟨m, hm⟩ : ∃ m, l[j]? = some m := ⟨_, List.getElem?_eq_getElem jlt⟩
      have hms := hls.2 m (List.mem_of_getElem? hm)
      have hb2 := fl_len (f := movIds) hm
      have hb3 : (listIds l).length = (l.flatMap movIds).length := rfl
      have hb4 : (movIds m).length = (IdsOf m.Train).length := rfl
      simp -dsimp -implicitDefEqProofs [hl, hm, lt_t klt, lt_t jlt]
      intro hlen2
      first
        | refine call_lend (IdsOf_spec m.Train hms) (by simp) rfl ?_
        | refine call_pure (IdsOf_spec m.Train hms) (by simp) rfl ?_
        | refine ⟨_, _, IdsOf_spec m.Train hms, by simp, .inr rfl, ?_⟩
        | refine ⟨_, _, IdsOf_spec m.Train hms, by simp, .inl rfl, ?_⟩
        | refine callE_pure (IdsOf_spec m.Train hms) (by simp) (.inr rfl) ?_
        | refine callE_pure (IdsOf_spec m.Train hms) (by simp) (.inl rfl) ?_
      simp -dsimp -implicitDefEqProofs
      refine ⟨by omega, inI_succ jlt hlen2, j + 1, jlt, by omega, ?_⟩
      apply le_of <;> simp [AV.refs1, AV.ref0, Obj.refs1, fl_succ hm, movIds, Nat.add_assoc]
    · simp -dsimp -implicitDefEqProofs [lt_f jge, hl, lt_t klt]
      intro _
      rw [fl_all jge]
      have e2 : A ++ l.flatMap movIds = fl listIds x.Movers (k + 1) := by rw [e1]; rfl
      have e3 : A.length + (l.flatMap movIds).length = (fl listIds x.Movers (k + 1)).length := by rw [← e2]; simp only [List.length_append]
      refine ⟨inI_succ klt hlen, k + 1, klt, by omega, ?_⟩
      apply le_of <;> simp [AV.refs1, AV.ref0, Obj.refs1, ← e2]
  simp -dsimp -implicitDefEqProofs [lt_f kge]
  intro _
  rw [fl_all kge]
  generalize x.Movers.flatMap listIds = B1 at hB hP
  refine loop_rule (ι := Nat) (fun q => q ≤ x.Works.length) (fun q => stOf [(1, .box 1 0), (3, .own 10 1 (B1 ++ fl wIds x.Works q).length), (6, .c (.i q))] [(1, .box (x.enc.map .c)), (10, .row 1 ((B1 ++ fl wIds x.Works q).map ienc))]) (fun q => x.Works.length - q) 0 (by simp) (by apply le_of <;> simp [AV.refs1, AV.ref0, Obj.refs1, fl_zero]) ?_
  rintro q hq
  rcases Nat.lt_or_ge q x.Works.length with qlt | qge
  · obtain ⟨w, hl⟩ : ∃ w, x.Works[q]? = some w := ⟨_, List.getElem?_eq_getElem qlt⟩
    have hws := s3.2 w (List.mem_of_getElem? hl)
    have hb1 := fl_len (f := wIds) hl
    have hb3 : (wIds w).length = (w.Calls.flatMap callIds).length + (w.Lock.Inside.flatMap IdsOf).length := by simp only [wIds, List.length_append]
    have e1 := fl_succ (f := wIds) hl
    have g1 := (List.getElem?_eq_some_iff.1 hl).2
    simp -dsimp -implicitDefEqProofs [hl, g1, qlt, lt_t qlt]
    intro hlen
    generalize fl wIds x.Works q = A at hb1 e1
    refine loop_rule (ι := Nat) (fun j => j ≤ w.Calls.length) (fun j => stOf [(1, .box 1 0), (3, .own 10 1 (B1 ++ A ++ fl callIds w.Calls j).length), (6, .c (.i q)), (7, .c (.i j))] [(1, .box (x.enc.map .c)), (10, .row 1 ((B1 ++ A ++ fl callIds w.Calls j).map ienc))]) (fun j => w.Calls.length - j) 0 (by simp) (by apply le_of <;> simp [AV.refs1, AV.ref0, Obj.refs1, fl_zero]) ?_
    rintro j hj
    rcases Nat.lt_or_ge j w.Calls.length with jlt | jge
    · obtain ⟨c, hm⟩ : ∃ c, w.Calls[j]? = some c := ⟨_, List.getElem?_eq_getElem jlt⟩
      have hms := hws.2.2.2 c (List.mem_of_getElem? hm)
      have hb2 := fl_len (f := callIds) hm
      have hb4 : (callIds c).length = (IdsOf c.Train).length := rfl
      simp -dsimp -implicitDefEqProofs [hl, hm, g1, qlt, lt_t qlt, lt_t jlt]
      intro hlen2
      first
        | refine call_lend (IdsOf_spec c.Train hms) (by simp) rfl ?_
        | refine call_pure (IdsOf_spec c.Train hms) (by simp) rfl ?_
        | refine ⟨_, _, IdsOf_spec c.Train hms, by simp, .inr rfl, ?_⟩
        | refine ⟨_, _, IdsOf_spec c.Train hms, by simp, .inl rfl, ?_⟩
        | refine callE_pure (IdsOf_spec c.Train hms) (by simp) (.inr rfl) ?_
        | refine callE_pure (IdsOf_spec c.Train hms) (by simp) (.inl rfl) ?_
      simp -dsimp -implicitDefEqProofs
      refine ⟨by omega, inI_succ jlt hlen2, j + 1, jlt, by omega, ?_⟩
      apply le_of <;> simp [AV.refs1, AV.ref0, Obj.refs1, fl_succ hm, callIds, Nat.add_assoc]
    simp -dsimp -implicitDefEqProofs [lt_f jge, hl, lt_t qlt, g1, qlt]
    intro _
    rw [fl_all jge]
    have hW : wIds w = w.Calls.flatMap callIds ++ w.Lock.Inside.flatMap IdsOf := rfl
    generalize w.Calls.flatMap callIds = A2 at hb3 hW
    refine loop_rule (ι := Nat) (fun i => i ≤ w.Lock.Inside.length) (fun i => stOf [(1, .box 1 0), (3, .own 10 1 (B1 ++ A ++ A2 ++ fl IdsOf w.Lock.Inside i).length), (6, .c (.i q)), (8, .c (.i i))] [(1, .box (x.enc.map .c)), (10, .row 1 ((B1 ++ A ++ A2 ++ fl IdsOf w.Lock.Inside i).map ienc))]) (fun i => w.Lock.Inside.length - i) 0 (by simp) (by apply le_of <;> simp [AV.refs1, AV.ref0, Obj.refs1, fl_zero]) ?_
    rintro i hi
    rcases Nat.lt_or_ge i w.Lock.Inside.length with ilt | ige
    · obtain ⟨t, hm⟩ : ∃ t, w.Lock.Inside[i]? = some t := ⟨_, List.getElem?_eq_getElem ilt⟩
      have hms := hws.1.2 t (List.mem_of_getElem? hm)
      have hb2 := fl_len (f := IdsOf) hm
      simp -dsimp -implicitDefEqProofs [hl, hm, g1, qlt, lt_t qlt, lt_t ilt]
      intro hlen2
      first
        | refine call_lend (IdsOf_spec t hms) (by simp) rfl ?_
        | refine call_pure (IdsOf_spec t hms) (by simp) rfl ?_
        | refine ⟨_, _, IdsOf_spec t hms, by simp, .inr rfl, ?_⟩
        | refine ⟨_, _, IdsOf_spec t hms, by simp, .inl rfl, ?_⟩
        | refine callE_pure (IdsOf_spec t hms) (by simp) (.inr rfl) ?_
        | refine callE_pure (IdsOf_spec t hms) (by simp) (.inl rfl) ?_
      simp -dsimp -implicitDefEqProofs
      refine ⟨by omega, inI_succ ilt hlen2, i + 1, ilt, by omega, ?_⟩
      apply le_of <;> simp [AV.refs1, AV.ref0, Obj.refs1, fl_succ hm, Nat.add_assoc]
    · simp -dsimp -implicitDefEqProofs [lt_f ige, hl, lt_t qlt, g1, qlt]
      intro _
      rw [fl_all ige]
      have e2 : A ++ A2 ++ w.Lock.Inside.flatMap IdsOf = fl wIds x.Works (q + 1) := by rw [e1, List.append_assoc]; exact congrArg _ hW.symm
      refine ⟨inI_succ qlt hlen, q + 1, qlt, by omega, ?_⟩
      apply le_of <;> simp [AV.refs1, AV.ref0, Obj.refs1, ← e2, Nat.add_assoc]
  simp -dsimp -implicitDefEqProofs [lt_f qge]
  intro _
  rw [fl_all qge]
  generalize x.Works.flatMap wIds = B2 at hB hP
  refine loop_rule (ι := Nat) (fun p => p ≤ x.Arrived.length) (fun p => stOf [(1, .box 1 0), (3, .own 10 1 (B1 ++ B2 ++ fl IdsOf x.Arrived p).length), (9, .c (.i p))] [(1, .box (x.enc.map .c)), (10, .row 1 ((B1 ++ B2 ++ fl IdsOf x.Arrived p).map ienc))]) (fun p => x.Arrived.length - p) 0 (by simp) (by apply le_of <;> simp [AV.refs1, AV.ref0, Obj.refs1, fl_zero]) ?_
  rintro p hp
  rcases Nat.lt_or_ge p x.Arrived.length with plt | pge
  · obtain ⟨t, hm⟩ : ∃ t, x.Arrived[p]? = some t := ⟨_, List.getElem?_eq_getElem plt⟩
    have hms := s5.2 t (List.mem_of_getElem? hm)
    have hb2 := fl_len (f := IdsOf) hm
    simp -dsimp -implicitDefEqProofs [hm, lt_t plt]
    intro hlen
    first
      | refine call_lend (IdsOf_spec t hms) (by simp) rfl ?_
      | refine call_pure (IdsOf_spec t hms) (by simp) rfl ?_
      | refine ⟨_, _, IdsOf_spec t hms, by simp, .inr rfl, ?_⟩
      | refine ⟨_, _, IdsOf_spec t hms, by simp, .inl rfl, ?_⟩
      | refine callE_pure (IdsOf_spec t hms) (by simp) (.inr rfl) ?_
      | refine callE_pure (IdsOf_spec t hms) (by simp) (.inl rfl) ?_
    simp -dsimp -implicitDefEqProofs
    refine ⟨by omega, inI_succ plt hlen, p + 1, plt, by omega, ?_⟩
    apply le_of <;> simp [AV.refs1, AV.ref0, Obj.refs1, fl_succ hm, Nat.add_assoc]
  · simp -dsimp -implicitDefEqProofs [lt_f pge]
    intro _
    rw [fl_all pge, hP]
    exact cat3.symm
set_option maxRecDepth 20000 in
theorem PlacesOf_impl (x : Waterway) (hs : x.small) (hB : (PlacesOf x).length ≤ 1000000000) : OwnF Tryz.prog n_impl_PlacesOf [.agg (x.enc.map .c)] (.c (.ow 1 ((PlacesOf x).map ienc))) := by
  obtain ⟨s1, s2, s3, s4, s5, s6, s7, s8, s9⟩ := hs
  have hP : PlacesOf x = x.Movers.flatMap listIds ++ x.Works.flatMap wIds ++ x.Arrived.flatMap IdsOf := rfl
  rw [PlacesOf_len] at hB
  refine own_of h_impl_PlacesOf (by simp) fun hwf => ?_
  simp -dsimp -implicitDefEqProofs [c_impl_PlacesOf]
  intro hlen
  refine virt_rule (k0 := 1) 3 1 (by simp) (by simp) (by decide) ?_
  refine loop_rule (ι := Nat) (fun k => k ≤ x.Movers.length) (fun k => stOf [(1, .box 1 0), (3, .own 3 1 (fl listIds x.Movers k).length), (17, .c (.sl 1 (x.Movers.map enc_MoverS))), (18, .c (.i x.Movers.length)), (19, .c (.i k))] [(1, .box (x.enc.map .c)), (3, .row 1 ((fl listIds x.Movers k).map ienc))]) (fun k => x.Movers.length - k) 0 (by simp) (by apply le_of <;> simp [AV.refs1, AV.ref0, Obj.refs1, fl_zero]) ?_
  rintro k hk
  rcases Nat.lt_or_ge k x.Movers.length with klt | kge
  · obtain ⟨l, hl⟩ : ∃ l, x.Movers[k]? = some l := ⟨_, List.getElem?_eq_getElem klt⟩
    have hls := s4.2 l (List.mem_of_getElem? hl)
    have hb1 := fl_len (f := listIds) hl
    have e1 := fl_succ (f := listIds) hl
    simp -dsimp -implicitDefEqProofs [hl, lt_t klt]
    intro hlen2
    generalize fl listIds x.Movers k = A at hb1 e1
    refine loop_rule (ι := Nat) (fun j => j ≤ l.length) (fun j => stOf [(1, .box 1 0), (3, .own 3 1 (A ++ fl movIds l j).length), (17, .c (.sl 1 (x.Movers.map enc_MoverS))), (18, .c (.i x.Movers.length)), (19, .c (.i k)), (23, .c (.sl 3 (l.map Mover.enc))), (24, .c (.i l.length)), (25, .c (.i j))] [(1, .box (x.enc.map .c)), (3, .row 1 ((A ++ fl movIds l j).map ienc))]) (fun j => l.length - j) 0 (by simp) (by apply le_of <;> simp [AV.refs1, AV.ref0, Obj.refs1, fl_zero]) ?_
    rintro j hj
    rcases Nat.lt_or_ge j l.length with jlt | jge
    · obtain ⟨m, hm⟩ : ∃ m, l[j]? = some m := ⟨_, List.getElem?_eq_getElem jlt⟩
      have hms := hls.2 m (List.mem_of_getElem? hm)
      have hb2 := fl_len (f := movIds) hm
      have hb3 : (listIds l).length = (l.flatMap movIds).length := rfl
      have hb4 : (movIds m).length = (IdsOf m.Train).length := rfl
      simp -dsimp -implicitDefEqProofs [hl, hm, lt_t klt, lt_t jlt]
      first
        | refine call_lend (IdsOf_implP m.Train hms) (by simp) rfl ?_
        | refine call_pure (IdsOf_implP m.Train hms) (by simp) rfl ?_
        | refine ⟨_, _, IdsOf_implP m.Train hms, by simp, .inr rfl, ?_⟩
        | refine ⟨_, _, IdsOf_implP m.Train hms, by simp, .inl rfl, ?_⟩
        | refine callE_pure (IdsOf_implP m.Train hms) (by simp) (.inr rfl) ?_
        | refine callE_pure (IdsOf_implP m.Train hms) (by simp) (.inl rfl) ?_
      simp -dsimp -implicitDefEqProofs
      refine ⟨by omega, inI_succ jlt hlen2, j + 1, jlt, by omega, ?_⟩
      apply le_of <;> simp [AV.refs1, AV.ref0, Obj.refs1, fl_succ hm, movIds, Nat.add_assoc]
    · simp -dsimp -implicitDefEqProofs [lt_f jge, hl]
      rw [fl_all jge]
      have e2 : A ++ l.flatMap movIds = fl listIds x.Movers (k + 1) := by rw [e1]; rfl
      have e3 : A.length + (l.flatMap movIds).length = (fl listIds x.Movers (k + 1)).length := by rw [← e2]; simp only [List.length_append]
      refine ⟨inI_succ klt hlen, k + 1, klt, by omega, ?_⟩
      apply le_of <;> simp [AV.refs1, AV.ref0, Obj.refs1, ← e2]
  simp -dsimp -implicitDefEqProofs [lt_f kge]
  rw [fl_all kge]
  generalize x.Movers.flatMap listIds = B1 at hB hP
  intro hlen
  refine loop_rule (ι := Nat) (fun q => q ≤ x.Works.length) (fun q => stOf [(1, .box 1 0), (3, .own 3 1 (B1 ++ fl wIds x.Works q).length), (37, .c (.sl 22 (x.Works.map Work.enc))), (38, .c (.i x.Works.length)), (39, .c (.i q))] [(1, .box (x.enc.map .c)), (3, .row 1 ((B1 ++ fl wIds x.Works q).map ienc))]) (fun q => x.Works.length - q) 0 (by simp) (by apply le_of <;> simp [AV.refs1, AV.ref0, Obj.refs1, fl_zero]) ?_
  rintro q hq
  rcases Nat.lt_or_ge q x.Works.length with qlt | qge
  · obtain ⟨w, hl⟩ : ∃ w, x.Works[q]? = some w := ⟨_, List.getElem?_eq_getElem qlt⟩
    have hws := s3.2 w (List.mem_of_getElem? hl)
    have hb1 := fl_len (f := wIds) hl
    have hb3 : (wIds w).length = (w.Calls.flatMap callIds).length + (w.Lock.Inside.flatMap IdsOf).length := by simp only [wIds, List.length_append]
    have e1 := fl_succ (f := wIds) hl
    have g1 := (List.getElem?_eq_some_iff.1 hl).2
    simp -dsimp -implicitDefEqProofs [hl, g1, qlt, lt_t qlt]
    intro hlen2
    generalize fl wIds x.Works q = A at hb1 e1
    refine loop_rule (ι := Nat) (fun j => j ≤ w.Calls.length) (fun j => stOf [(1, .box 1 0), (3, .own 3 1 (B1 ++ A ++ fl callIds w.Calls j).length), (37, .c (.sl 22 (x.Works.map Work.enc))), (38, .c (.i x.Works.length)), (39, .c (.i q)), (9, .box 9 0), (44, .c (.sl 4 (w.Calls.map CallT.enc))), (45, .c (.i w.Calls.length)), (46, .c (.i j))] [(1, .box (x.enc.map .c)), (3, .row 1 ((B1 ++ A ++ fl callIds w.Calls j).map ienc)), (9, .box (w.enc.map .c))]) (fun j => w.Calls.length - j) 0 (by simp) (by apply le_of <;> simp [AV.refs1, AV.ref0, Obj.refs1, fl_zero]) ?_
    rintro j hj
    rcases Nat.lt_or_ge j w.Calls.length with jlt | jge
    · obtain ⟨c, hm⟩ : ∃ c, w.Calls[j]? = some c := ⟨_, List.getElem?_eq_getElem jlt⟩
      have hms := hws.2.2.2 c (List.mem_of_getElem? hm)
      have hb2 := fl_len (f := callIds) hm
      have hb4 : (callIds c).length = (IdsOf c.Train).length := rfl
      simp -dsimp -implicitDefEqProofs [hl, hm, g1, qlt, lt_t qlt, lt_t jlt]
      first
        | refine call_lend (IdsOf_implP c.Train hms) (by simp) rfl ?_
        | refine call_pure (IdsOf_implP c.Train hms) (by simp) rfl ?_
        | refine ⟨_, _, IdsOf_implP c.Train hms, by simp, .inr rfl, ?_⟩
        | refine ⟨_, _, IdsOf_implP c.Train hms, by simp, .inl rfl, ?_⟩
        | refine callE_pure (IdsOf_implP c.Train hms) (by simp) (.inr rfl) ?_
        | refine callE_pure (IdsOf_implP c.Train hms) (by simp) (.inl rfl) ?_
      simp -dsimp -implicitDefEqProofs
      refine ⟨by omega, inI_succ jlt hlen2, j + 1, jlt, by omega, ?_⟩
      apply le_of <;> simp [AV.refs1, AV.ref0, Obj.refs1, fl_succ hm, callIds, Nat.add_assoc]
    simp -dsimp -implicitDefEqProofs [lt_f jge, hl]
    rw [fl_all jge]
    have hW : wIds w = w.Calls.flatMap callIds ++ w.Lock.Inside.flatMap IdsOf := rfl
    generalize w.Calls.flatMap callIds = A2 at hb3 hW
    intro hlen2
    refine loop_rule (ι := Nat) (fun i => i ≤ w.Lock.Inside.length) (fun i => stOf [(1, .box 1 0), (3, .own 3 1 (B1 ++ A ++ A2 ++ fl IdsOf w.Lock.Inside i).length), (37, .c (.sl 22 (x.Works.map Work.enc))), (38, .c (.i x.Works.length)), (39, .c (.i q)), (58, .c (.sl 2 (w.Lock.Inside.map Train.enc))), (59, .c (.i w.Lock.Inside.length)), (60, .c (.i i))] [(1, .box (x.enc.map .c)), (3, .row 1 ((B1 ++ A ++ A2 ++ fl IdsOf w.Lock.Inside i).map ienc))]) (fun i => w.Lock.Inside.length - i) 0 (by simp) (by apply le_of <;> simp [AV.refs1, AV.ref0, Obj.refs1, fl_zero]) ?_
    rintro i hi
    rcases Nat.lt_or_ge i w.Lock.Inside.length with ilt | ige
    · obtain ⟨t, hm⟩ : ∃ t, w.Lock.Inside[i]? = some t := ⟨_, List.getElem?_eq_getElem ilt⟩
      have hms := hws.1.2 t (List.mem_of_getElem? hm)
      have hb2 := fl_len (f := IdsOf) hm
      simp -dsimp -implicitDefEqProofs [hl, hm, g1, qlt, lt_t qlt, lt_t ilt]
      first
        | refine call_lend (IdsOf_implP t hms) (by simp) rfl ?_
        | refine call_pure (IdsOf_implP t hms) (by simp) rfl ?_
        | refine ⟨_, _, IdsOf_implP t hms, by simp, .inr rfl, ?_⟩
        | refine ⟨_, _, IdsOf_implP t hms, by simp, .inl rfl, ?_⟩
        | refine callE_pure (IdsOf_implP t hms) (by simp) (.inr rfl) ?_
        | refine callE_pure (IdsOf_implP t hms) (by simp) (.inl rfl) ?_
      simp -dsimp -implicitDefEqProofs
      refine ⟨by omega, inI_succ ilt hlen2, i + 1, ilt, by omega, ?_⟩
      apply le_of <;> simp [AV.refs1, AV.ref0, Obj.refs1, fl_succ hm, Nat.add_assoc]
    · simp -dsimp -implicitDefEqProofs [lt_f ige, hl]
      rw [fl_all ige]
      have e2 : A ++ A2 ++ w.Lock.Inside.flatMap IdsOf = fl wIds x.Works (q + 1) := by rw [e1, List.append_assoc]; exact congrArg _ hW.symm
      refine ⟨inI_succ qlt hlen, q + 1, qlt, by omega, ?_⟩
      apply le_of <;> simp [AV.refs1, AV.ref0, Obj.refs1, ← e2, Nat.add_assoc]
  simp -dsimp -implicitDefEqProofs [lt_f qge]
  rw [fl_all qge]
  generalize x.Works.flatMap wIds = B2 at hB hP
  intro hlen
  refine loop_rule (ι := Nat) (fun p => p ≤ x.Arrived.length) (fun p => stOf [(1, .box 1 0), (3, .own 3 1 (B1 ++ B2 ++ fl IdsOf x.Arrived p).length), (71, .c (.sl 2 (x.Arrived.map Train.enc))), (72, .c (.i x.Arrived.length)), (73, .c (.i p))] [(1, .box (x.enc.map .c)), (3, .row 1 ((B1 ++ B2 ++ fl IdsOf x.Arrived p).map ienc))]) (fun p => x.Arrived.length - p) 0 (by simp) (by apply le_of <;> simp [AV.refs1, AV.ref0, Obj.refs1, fl_zero]) ?_
  rintro p hp
  rcases Nat.lt_or_ge p x.Arrived.length with plt | pge
  · obtain ⟨t, hm⟩ : ∃ t, x.Arrived[p]? = some t := ⟨_, List.getElem?_eq_getElem plt⟩
    have hms := s5.2 t (List.mem_of_getElem? hm)
    have hb2 := fl_len (f := IdsOf) hm
    simp -dsimp -implicitDefEqProofs [hm, lt_t plt]
    first
      | refine call_lend (IdsOf_implP t hms) (by simp) rfl ?_
      | refine call_pure (IdsOf_implP t hms) (by simp) rfl ?_
      | refine ⟨_, _, IdsOf_implP t hms, by simp, .inr rfl, ?_⟩
      | refine ⟨_, _, IdsOf_implP t hms, by simp, .inl rfl, ?_⟩
      | refine callE_pure (IdsOf_implP t hms) (by simp) (.inr rfl) ?_
      | refine callE_pure (IdsOf_implP t hms) (by simp) (.inl rfl) ?_
    simp -dsimp -implicitDefEqProofs
    refine ⟨by omega, inI_succ plt hlen, p + 1, plt, by omega, ?_⟩
    apply le_of <;> simp [AV.refs1, AV.ref0, Obj.refs1, fl_succ hm, Nat.add_assoc]
  · simp -dsimp -implicitDefEqProofs [lt_f pge]
    rw [fl_all pge, hP]
    exact cat3.symm
theorem boats_tot (xs : List (List Boat)) : (xs.map List.length).sum ≤ totSS tot_BoatS xs := by
  have : xs.map tot_BoatS = xs.map List.length := rfl
  unfold totSS; rw [this]; omega
theorem ids_tot (t : Train) : (IdsOf t).length ≤ tot_Train t := by
  have h : t.boats = t.Rows.flatten := rfl
  unfold IdsOf
  split
  · rw [List.length_map, h, List.length_flatten]; exact boats_tot t.Rows
  · simp
theorem fm_tot {α : Type} {f : α → List Int} {t : α → Nat} (h : ∀ x, (f x).length ≤ t x) : ∀ l : List α, (l.flatMap f).length ≤ totSS t l
  | [] => by simp
  | x :: l => by
    have h1 := h x
    have h2 := fm_tot h l
    unfold totSS at h2 ⊢
    simp only [List.flatMap_cons, List.length_append, List.length_cons, List.map_cons, List.sum_cons]; omega
theorem listIds_tot (l : List Mover) : (listIds l).length ≤ tot_MoverS l := fm_tot (f := movIds) (t := tot_Mover) (fun m => ids_tot m.Train) l
theorem wIds_tot (w : Work) : (wIds w).length ≤ tot_Work w := by
  have h1 : (w.Calls.flatMap callIds).length ≤ tot_CallS w.Calls := fm_tot (f := callIds) (t := tot_Call) (fun m => ids_tot m.Train) w.Calls
  have h2 : (w.Lock.Inside.flatMap IdsOf).length ≤ tot_TrainS w.Lock.Inside := fm_tot ids_tot w.Lock.Inside
  unfold wIds tot_Work tot_Lock
  rw [List.length_append]; omega
theorem PlacesOf_tot (x : Waterway) : (PlacesOf x).length ≤ tot_Waterway x := by
  have h1 : (x.Movers.flatMap listIds).length ≤ tot_MoverSS x.Movers := fm_tot listIds_tot x.Movers
  have h2 : (x.Works.flatMap wIds).length ≤ tot_WorkS x.Works := fm_tot wIds_tot x.Works
  have h3 : (x.Arrived.flatMap IdsOf).length ≤ tot_TrainS x.Arrived := fm_tot ids_tot x.Arrived
  rw [PlacesOf_len]
  unfold tot_Waterway
  omega
/-- How many marks a waterway takes. -/
theorem wm9_le (x : Waterway) (k : Int) : wm9 x k ≤ k + 27 * (tot_Waterway x : Int) := by
  have a1 := cnt_tot nk_Reach_le x.Reaches
  have a2 := cnt_tot nk_Work_le x.Works
  have a3 := cnt_tot nk_MoverS_le x.Movers
  have a4 := cnt_tot nk_Train_le x.Arrived
  have a5 := cnt_tot nk_Passing_le x.Passings
  have b1 : tot_ReachS x.Reaches = totSS tot_Reach x.Reaches := rfl
  have b2 : tot_WorkS x.Works = totSS tot_Work x.Works := rfl
  have b3 : tot_MoverSS x.Movers = totSS tot_MoverS x.Movers := rfl
  have b4 : tot_TrainS x.Arrived = totSS tot_Train x.Arrived := rfl
  have b5 : tot_PassingS x.Passings = totSS tot_Passing x.Passings := rfl
  have c1 : tot_WayS x.Ways = x.Ways.length := rfl
  have c2 : tot_IntS x.Entered = x.Entered.length := rfl
  have c3 : tot_EntryS x.Book = x.Book.length := rfl
  have c4 : tot_IntS x.Tariff.PerClass = x.Tariff.PerClass.length := rfl
  have c5 : tot_IntS x.Tariff.Weights = x.Tariff.Weights.length := rfl
  simp only [wm1, wm2, wm3, wm4, wm5, wm6, wm7, wm8, wm9, nT, tot_Waterway, tot_Tariff]
  omega
theorem PlacesOf_implP (x : Waterway) (hs : x.small) (hB : (PlacesOf x).length ≤ 1000000000) : PureF Tryz.prog n_impl_PlacesOf [.agg (x.enc.map .c)] (.c (.sl 1 ((PlacesOf x).map ienc))) := (PlacesOf_impl x hs hB).pure rfl
set_option maxRecDepth 20000 in
theorem FnExactPlacesOf_c (x0 : Waterway) : PureF Tryz.prog n_laws_FnExactPlacesOf [.agg (x0.enc.map .c)] (.c (.b true)) := by
  refine pure_of h_laws_FnExactPlacesOf (by simp) fun hwf => ?_
  simp -dsimp -implicitDefEqProofs [c_laws_FnExactPlacesOf]
  first
    | refine call_lend (sz_Waterway_c x0 1048576 (by omega) (by omega)) (by simp) rfl ?_
    | refine call_pure (sz_Waterway_c x0 1048576 (by omega) (by omega)) (by simp) rfl ?_
    | refine ⟨_, _, sz_Waterway_c x0 1048576 (by omega) (by omega), by simp, .inr rfl, ?_⟩
    | refine ⟨_, _, sz_Waterway_c x0 1048576 (by omega) (by omega), by simp, .inl rfl, ?_⟩
    | refine callE_pure (sz_Waterway_c x0 1048576 (by omega) (by omega)) (by simp) (.inr rfl) ?_
    | refine callE_pure (sz_Waterway_c x0 1048576 (by omega) (by omega)) (by simp) (.inl rfl) ?_
  simp -dsimp -implicitDefEqProofs
  intro hsz0
  have hl0 := sz_small sz_Waterway_ok (by omega) (by omega) hsz0
  have ht := tot_Waterway_ok x0 1048576 (by omega) (by omega) hsz0
  have hpt := PlacesOf_tot x0
  have hwm := wm9_le x0 1
  have hB : (PlacesOf x0).length ≤ 1000000000 := by omega
  have hP := PlacesOf_implP x0 hl0 hB
  have hO := PlacesOf_impl x0 hl0 hB
  first
    | refine call_lend (toWaterway_c x0 hl0) (by simp) rfl ?_
    | refine call_pure (toWaterway_c x0 hl0) (by simp) rfl ?_
    | refine ⟨_, _, toWaterway_c x0 hl0, by simp, .inr rfl, ?_⟩
    | refine ⟨_, _, toWaterway_c x0 hl0, by simp, .inl rfl, ?_⟩
    | refine callE_pure (toWaterway_c x0 hl0) (by simp) (.inr rfl) ?_
    | refine callE_pure (toWaterway_c x0 hl0) (by simp) (.inl rfl) ?_
  simp -dsimp -implicitDefEqProofs
  first
    | refine call_lend (PlacesOf_spec x0 hl0 hB) (by simp) rfl ?_
    | refine call_pure (PlacesOf_spec x0 hl0 hB) (by simp) rfl ?_
    | refine ⟨_, _, PlacesOf_spec x0 hl0 hB, by simp, .inr rfl, ?_⟩
    | refine ⟨_, _, PlacesOf_spec x0 hl0 hB, by simp, .inl rfl, ?_⟩
    | refine callE_pure (PlacesOf_spec x0 hl0 hB) (by simp) (.inr rfl) ?_
    | refine callE_pure (PlacesOf_spec x0 hl0 hB) (by simp) (.inl rfl) ?_
  generalize PlacesOf x0 = r at *
  simp -dsimp -implicitDefEqProofs
  refine call_own (toWaterway_o x0 hl0) (by simp) (cl_agg (Waterway.oenc_cl x0)) (by simp [freshO]) ?_
  simp -dsimp -implicitDefEqProofs
  first
    | refine call_own (hO) (by simp [take_full, shrs_map Reach.oenc_shr, shrs_map Work.oenc_shr, shrs_map eo_MoverS_shr, shrs_map Train.oenc_shr, shrs_map Passing.oenc_shr]) (by simp [AV.closed, AV.closed1, C.closed]) (by simp [freshO]) ?_
    | refine callE_own (hO) (by simp [take_full, shrs_map Reach.oenc_shr, shrs_map Work.oenc_shr, shrs_map eo_MoverS_shr, shrs_map Train.oenc_shr, shrs_map Passing.oenc_shr]) (by simp [AV.closed, AV.closed1, C.closed]) (by simp [freshO]) ?_
  simp -dsimp -implicitDefEqProofs
  first
    | refine call_lend (eqIntS_c r r) (by simp [take_full]) rfl ?_
    | refine call_pure (eqIntS_c r r) (by simp [take_full]) rfl ?_
    | refine ⟨_, _, eqIntS_c r r, by simp [take_full], .inr rfl, ?_⟩
    | refine ⟨_, _, eqIntS_c r r, by simp [take_full], .inl rfl, ?_⟩
    | refine callE_pure (eqIntS_c r r) (by simp [take_full]) (.inr rfl) ?_
    | refine callE_pure (eqIntS_c r r) (by simp [take_full]) (.inl rfl) ?_
  simp -dsimp -implicitDefEqProofs
  first
    | refine call_lend (toWaterway_c x0 hl0) (by simp) rfl ?_
    | refine call_pure (toWaterway_c x0 hl0) (by simp) rfl ?_
    | refine ⟨_, _, toWaterway_c x0 hl0, by simp, .inr rfl, ?_⟩
    | refine ⟨_, _, toWaterway_c x0 hl0, by simp, .inl rfl, ?_⟩
    | refine callE_pure (toWaterway_c x0 hl0) (by simp) (.inr rfl) ?_
    | refine callE_pure (toWaterway_c x0 hl0) (by simp) (.inl rfl) ?_
  simp -dsimp -implicitDefEqProofs
  first
    | refine call_lend (eqWaterway_c x0 x0) (by simp [take_full, shrs_map Reach.oenc_shr, shrs_map Work.oenc_shr, shrs_map eo_MoverS_shr, shrs_map Train.oenc_shr, shrs_map Passing.oenc_shr]) rfl ?_
    | refine call_pure (eqWaterway_c x0 x0) (by simp [take_full, shrs_map Reach.oenc_shr, shrs_map Work.oenc_shr, shrs_map eo_MoverS_shr, shrs_map Train.oenc_shr, shrs_map Passing.oenc_shr]) rfl ?_
    | refine ⟨_, _, eqWaterway_c x0 x0, by simp [take_full, shrs_map Reach.oenc_shr, shrs_map Work.oenc_shr, shrs_map eo_MoverS_shr, shrs_map Train.oenc_shr, shrs_map Passing.oenc_shr], .inr rfl, ?_⟩
    | refine ⟨_, _, eqWaterway_c x0 x0, by simp [take_full, shrs_map Reach.oenc_shr, shrs_map Work.oenc_shr, shrs_map eo_MoverS_shr, shrs_map Train.oenc_shr, shrs_map Passing.oenc_shr], .inl rfl, ?_⟩
    | refine callE_pure (eqWaterway_c x0 x0) (by simp [take_full, shrs_map Reach.oenc_shr, shrs_map Work.oenc_shr, shrs_map eo_MoverS_shr, shrs_map Train.oenc_shr, shrs_map Passing.oenc_shr]) (.inr rfl) ?_
    | refine callE_pure (eqWaterway_c x0 x0) (by simp [take_full, shrs_map Reach.oenc_shr, shrs_map Work.oenc_shr, shrs_map eo_MoverS_shr, shrs_map Train.oenc_shr, shrs_map Passing.oenc_shr]) (.inl rfl) ?_
  simp -dsimp -implicitDefEqProofs
  refine call_inA (ups := [none, some (20020, .tr 3 1 (seqM fk_Reach nk_Reach 1 x0.Reaches)), some (30020, .row 2 (marked mk_Way 2 [] (wm1 x0 1) x0.Ways.length)), some (40020, .tr 22 1 (seqM fk_Work nk_Work (wm2 x0 1) x0.Works)), some (50020, .tr 1 1 (seqM fk_MoverS nk_MoverS (wm3 x0 1) x0.Movers)), some (60020, .tr 2 1 (seqM fk_Train nk_Train (wm4 x0 1) x0.Arrived)), some (70020, .row 1 (marked ienc 1 [] (wm5 x0 1) x0.Entered.length)), none, none, some (100020, .row 1 (marked ienc 1 [] (wm6 x0 1) x0.Tariff.PerClass.length)), some (110020, .row 1 (marked ienc 1 [] (wm6 x0 1 + x0.Tariff.PerClass.length) x0.Tariff.Weights.length)), some (120020, .row 5 (marked mkEn 5 [] (wm7 x0 1) x0.Book.length)), some (130020, .tr 4 1 (seqM fk_Passing nk_Passing (wm8 x0 1) x0.Passings)), none, none, none]) (markWaterway_c x0 1 (by omega) (by omega)) (by simp) rfl rfl
    ⟨ioC_c rfl, ioC_tr (rows := x0.Reaches.map Reach.oenc) (by simp) rfl rfl rfl (by simp) (by simp [seqM_len]) rfl rfl, ioC_row (rows := x0.Ways.map Way.enc) (by simp) rfl rfl (by simp) (by simp [marked_n]) rfl rfl, ioC_tr (rows := x0.Works.map Work.oenc) (by simp) rfl rfl rfl (by simp) (by simp [seqM_len]) rfl rfl, ioC_tr (rows := x0.Movers.map eo_MoverS) (by simp) rfl rfl rfl (by simp) (by simp [seqM_len]) rfl rfl, ioC_tr (rows := x0.Arrived.map Train.oenc) (by simp) rfl rfl rfl (by simp) (by simp [seqM_len]) rfl rfl, ioC_row (rows := x0.Entered.map ienc) (by simp) rfl rfl (by simp) (by simp [marked_n]) rfl rfl, ioC_c rfl, ioC_c rfl, ioC_row (rows := x0.Tariff.PerClass.map ienc) (by simp) rfl rfl (by simp) (by simp [marked_n]) rfl rfl, ioC_row (rows := x0.Tariff.Weights.map ienc) (by simp) rfl rfl (by simp) (by simp [marked_n]) rfl rfl, ioC_row (rows := x0.Book.map Entry.enc) (by simp) rfl rfl (by simp) (by simp [marked_n]) rfl rfl, ioC_tr (rows := x0.Passings.map Passing.oenc) (by simp) rfl rfl rfl (by simp) (by simp [seqM_len]) rfl rfl, ioC_c rfl, ioC_c rfl, ioC_c rfl, trivial⟩ (by simp [upIds]) ?_
  have w9 : 0 ≤ wm9 x0 1 := by have := wkB x0 (k := 1) (by omega); obtain ⟨b0, b1, b2, b3, b4, b5, b6, b7, b8, b9⟩ := this; omega
  have n1 : (wm9 x0 1 < 0) = False := by simp; omega
  simp -dsimp -implicitDefEqProofs [n1]
  first
    | refine call_lend (eqIntS_c r r) (by simp [take_full]) rfl ?_
    | refine call_pure (eqIntS_c r r) (by simp [take_full]) rfl ?_
    | refine ⟨_, _, eqIntS_c r r, by simp [take_full], .inr rfl, ?_⟩
    | refine ⟨_, _, eqIntS_c r r, by simp [take_full], .inl rfl, ?_⟩
    | refine callE_pure (eqIntS_c r r) (by simp [take_full]) (.inr rfl) ?_
    | refine callE_pure (eqIntS_c r r) (by simp [take_full]) (.inl rfl) ?_
  simp -dsimp -implicitDefEqProofs
  refine call_in1 (up := some (22, .row 1 (marked ienc 1 [] 1 r.length))) (markIntS_c r 1 (by omega) (by omega)) (by simp) rfl rfl (ioC_row (rows := r.map ienc) (by simp) rfl rfl (by simp) (by simp [marked_n]) rfl rfl) ?_
  simp -dsimp -implicitDefEqProofs
  first
    | refine call_lend (heldIntS_c r.length 1 (by omega) (by omega)) (by simp [take_marked]) rfl ?_
    | refine call_pure (heldIntS_c r.length 1 (by omega) (by omega)) (by simp [take_marked]) rfl ?_
    | refine ⟨_, _, heldIntS_c r.length 1 (by omega) (by omega), by simp [take_marked], .inr rfl, ?_⟩
    | refine ⟨_, _, heldIntS_c r.length 1 (by omega) (by omega), by simp [take_marked], .inl rfl, ?_⟩
    | refine callE_pure (heldIntS_c r.length 1 (by omega) (by omega)) (by simp [take_marked]) (.inr rfl) ?_
    | refine callE_pure (heldIntS_c r.length 1 (by omega) (by omega)) (by simp [take_marked]) (.inl rfl) ?_
  have n2 : (1 + (r.length : Int) < 0) = False := by simp; omega
  simp -dsimp -implicitDefEqProofs [n2]
  first
    | refine call_lend (toWaterway_c x0 hl0) (by simp) rfl ?_
    | refine call_pure (toWaterway_c x0 hl0) (by simp) rfl ?_
    | refine ⟨_, _, toWaterway_c x0 hl0, by simp, .inr rfl, ?_⟩
    | refine ⟨_, _, toWaterway_c x0 hl0, by simp, .inl rfl, ?_⟩
    | refine callE_pure (toWaterway_c x0 hl0) (by simp) (.inr rfl) ?_
    | refine callE_pure (toWaterway_c x0 hl0) (by simp) (.inl rfl) ?_
  simp -dsimp -implicitDefEqProofs
  first
    | refine call_lend (hP) (by simp) rfl ?_
    | refine call_pure (hP) (by simp) rfl ?_
    | refine ⟨_, _, hP, by simp, .inr rfl, ?_⟩
    | refine ⟨_, _, hP, by simp, .inl rfl, ?_⟩
    | refine callE_pure (hP) (by simp) (.inr rfl) ?_
    | refine callE_pure (hP) (by simp) (.inl rfl) ?_
  simp -dsimp -implicitDefEqProofs
  first
    | refine call_lend (eqIntS_c r r) (by simp [take_full]) rfl ?_
    | refine call_pure (eqIntS_c r r) (by simp [take_full]) rfl ?_
    | refine ⟨_, _, eqIntS_c r r, by simp [take_full], .inr rfl, ?_⟩
    | refine ⟨_, _, eqIntS_c r r, by simp [take_full], .inl rfl, ?_⟩
    | refine callE_pure (eqIntS_c r r) (by simp [take_full]) (.inr rfl) ?_
    | refine callE_pure (eqIntS_c r r) (by simp [take_full]) (.inl rfl) ?_
  simp -dsimp -implicitDefEqProofs
  first
    | refine call_lend (heldIntS_c r.length 1 (by omega) (by omega)) (by simp [take_marked]) rfl ?_
    | refine call_pure (heldIntS_c r.length 1 (by omega) (by omega)) (by simp [take_marked]) rfl ?_
    | refine ⟨_, _, heldIntS_c r.length 1 (by omega) (by omega), by simp [take_marked], .inr rfl, ?_⟩
    | refine ⟨_, _, heldIntS_c r.length 1 (by omega) (by omega), by simp [take_marked], .inl rfl, ?_⟩
    | refine callE_pure (heldIntS_c r.length 1 (by omega) (by omega)) (by simp [take_marked]) (.inr rfl) ?_
    | refine callE_pure (heldIntS_c r.length 1 (by omega) (by omega)) (by simp [take_marked]) (.inl rfl) ?_
  simp -dsimp -implicitDefEqProofs [n2]
theorem Entry_fit {xs : List C} (h : Fits [.i, .i, .i, .i, .i] xs) : ∃ e : Entry, xs = e.enc := by
  obtain ⟨c0, ys, rfl, h0, h⟩ := h.cons_inv
  obtain ⟨c1, ys, rfl, h1, h⟩ := h.cons_inv
  obtain ⟨c2, ys, rfl, h2, h⟩ := h.cons_inv
  obtain ⟨c3, ys, rfl, h3, h⟩ := h.cons_inv
  obtain ⟨c4, ys, rfl, h4, h⟩ := h.cons_inv
  obtain rfl := h.nil_inv
  obtain ⟨n0, rfl⟩ := h0.i_inv
  obtain ⟨n1, rfl⟩ := h1.i_inv
  obtain ⟨n2, rfl⟩ := h2.i_inv
  obtain ⟨n3, rfl⟩ := h3.i_inv
  obtain ⟨n4, rfl⟩ := h4.i_inv
  exact ⟨⟨n0, n1, n2, n3, n4⟩, rfl⟩
theorem ienc_fit {xs : List C} (h : Fits [.i] xs) : ∃ n : Int, xs = ienc n := by
  obtain ⟨c0, ys, rfl, h0, h⟩ := h.cons_inv
  obtain rfl := h.nil_inv
  obtain ⟨n0, rfl⟩ := h0.i_inv
  exact ⟨n0, rfl⟩
theorem Way_fit {xs : List C} (h : Fits [.i, .i] xs) : ∃ e : Way, xs = e.enc := by
  obtain ⟨c0, ys, rfl, h0, h⟩ := h.cons_inv
  obtain ⟨c1, ys, rfl, h1, h⟩ := h.cons_inv
  obtain rfl := h.nil_inv
  obtain ⟨n0, rfl⟩ := h0.i_inv
  obtain ⟨n1, rfl⟩ := h1.i_inv
  exact ⟨⟨n0, n1⟩, rfl⟩
theorem Boat_fit {xs : List C} (h : Fits [.i, .i, .i, .i, .i, .i] xs) : ∃ e : Boat, xs = e.enc := by
  obtain ⟨c0, ys, rfl, h0, h⟩ := h.cons_inv
  obtain ⟨c1, ys, rfl, h1, h⟩ := h.cons_inv
  obtain ⟨c2, ys, rfl, h2, h⟩ := h.cons_inv
  obtain ⟨c3, ys, rfl, h3, h⟩ := h.cons_inv
  obtain ⟨c4, ys, rfl, h4, h⟩ := h.cons_inv
  obtain ⟨c5, ys, rfl, h5, h⟩ := h.cons_inv
  obtain rfl := h.nil_inv
  obtain ⟨n0, rfl⟩ := h0.i_inv
  obtain ⟨n1, rfl⟩ := h1.i_inv
  obtain ⟨n2, rfl⟩ := h2.i_inv
  obtain ⟨n3, rfl⟩ := h3.i_inv
  obtain ⟨n4, rfl⟩ := h4.i_inv
  obtain ⟨n5, rfl⟩ := h5.i_inv
  exact ⟨⟨n0, n1, n2, n3, n4, n5⟩, rfl⟩
theorem BoatS_fit {xs : List C} (h : Fits [.sl [.i, .i, .i, .i, .i, .i]] xs) : ∃ e : List Boat, xs = enc_BoatS e := by
  obtain ⟨c0, ys, rfl, h0, h⟩ := h.cons_inv
  obtain rfl := h.nil_inv
  obtain ⟨n0, rfl⟩ := h0.sl_inv Boat.enc fun _ h => Boat_fit h
  exact ⟨n0, rfl⟩
theorem Train_fit {xs : List C} (h : Fits [.b, .sl [.sl [.i, .i, .i, .i, .i, .i]]] xs) : ∃ e : Train, xs = e.enc := by
  obtain ⟨c0, ys, rfl, h0, h⟩ := h.cons_inv
  obtain ⟨c1, ys, rfl, h1, h⟩ := h.cons_inv
  obtain rfl := h.nil_inv
  obtain ⟨n0, rfl⟩ := h0.b_inv
  obtain ⟨n1, rfl⟩ := h1.sl_inv enc_BoatS fun _ h => BoatS_fit h
  exact ⟨⟨n0, n1⟩, rfl⟩
theorem Mover_fit {xs : List C} (h : Fits [.b, .sl [.sl [.i, .i, .i, .i, .i, .i]], .i] xs) : ∃ e : Mover, xs = e.enc := by
  obtain ⟨c0, ys, rfl, h0, h⟩ := h.cons_inv
  obtain ⟨c1, ys, rfl, h1, h⟩ := h.cons_inv
  obtain ⟨c2, ys, rfl, h2, h⟩ := h.cons_inv
  obtain rfl := h.nil_inv
  obtain ⟨n0, rfl⟩ := h0.b_inv
  obtain ⟨n1, rfl⟩ := h1.sl_inv enc_BoatS fun _ h => BoatS_fit h
  obtain ⟨n2, rfl⟩ := h2.i_inv
  exact ⟨⟨⟨n0, n1⟩, n2⟩, rfl⟩
theorem Point_fit {xs : List C} (h : Fits [.i, .i] xs) : ∃ e : Point, xs = e.enc := by
  obtain ⟨c0, ys, rfl, h0, h⟩ := h.cons_inv
  obtain ⟨c1, ys, rfl, h1, h⟩ := h.cons_inv
  obtain rfl := h.nil_inv
  obtain ⟨n0, rfl⟩ := h0.i_inv
  obtain ⟨n1, rfl⟩ := h1.i_inv
  exact ⟨⟨n0, n1⟩, rfl⟩
theorem Reach_fit {xs : List C} (h : Fits [.sl [.i, .i], .i, .sl [.i]] xs) : ∃ e : Reach, xs = e.enc := by
  obtain ⟨c0, ys, rfl, h0, h⟩ := h.cons_inv
  obtain ⟨c1, ys, rfl, h1, h⟩ := h.cons_inv
  obtain ⟨c2, ys, rfl, h2, h⟩ := h.cons_inv
  obtain rfl := h.nil_inv
  obtain ⟨n0, rfl⟩ := h0.sl_inv Point.enc fun _ h => Point_fit h
  obtain ⟨n1, rfl⟩ := h1.i_inv
  obtain ⟨n2, rfl⟩ := h2.sl_inv ienc fun _ h => ienc_fit h
  exact ⟨⟨n0, n1, n2⟩, rfl⟩
theorem Pause_fit {xs : List C} (h : Fits [.i, .i] xs) : ∃ e : Pause, xs = e.enc := by
  obtain ⟨c0, ys, rfl, h0, h⟩ := h.cons_inv
  obtain ⟨c1, ys, rfl, h1, h⟩ := h.cons_inv
  obtain rfl := h.nil_inv
  obtain ⟨n0, rfl⟩ := h0.i_inv
  obtain ⟨n1, rfl⟩ := h1.i_inv
  exact ⟨⟨n0, n1⟩, rfl⟩
theorem Call_fit {xs : List C} (h : Fits [.b, .sl [.sl [.i, .i, .i, .i, .i, .i]], .i, .i] xs) : ∃ e : CallT, xs = e.enc := by
  obtain ⟨c0, ys, rfl, h0, h⟩ := h.cons_inv
  obtain ⟨c1, ys, rfl, h1, h⟩ := h.cons_inv
  obtain ⟨c2, ys, rfl, h2, h⟩ := h.cons_inv
  obtain ⟨c3, ys, rfl, h3, h⟩ := h.cons_inv
  obtain rfl := h.nil_inv
  obtain ⟨n0, rfl⟩ := h0.b_inv
  obtain ⟨n1, rfl⟩ := h1.sl_inv enc_BoatS fun _ h => BoatS_fit h
  obtain ⟨n2, rfl⟩ := h2.i_inv
  obtain ⟨n3, rfl⟩ := h3.i_inv
  exact ⟨⟨⟨n0, n1⟩, n2, n3⟩, rfl⟩
theorem Work_fit {xs : List C} (h : Fits [.i, .i, .i, .i, .i, .i, .i, .i, .i, .sl [.b, .sl [.sl [.i, .i, .i, .i, .i, .i]]], .i, .i, .i, .i, .i, .i, .i, .i, .sl [.i, .i], .b, .i, .sl [.b, .sl [.sl [.i, .i, .i, .i, .i, .i]], .i, .i]] xs) : ∃ e : Work, xs = e.enc := by
  obtain ⟨c0, ys, rfl, h0, h⟩ := h.cons_inv
  obtain ⟨c1, ys, rfl, h1, h⟩ := h.cons_inv
  obtain ⟨c2, ys, rfl, h2, h⟩ := h.cons_inv
  obtain ⟨c3, ys, rfl, h3, h⟩ := h.cons_inv
  obtain ⟨c4, ys, rfl, h4, h⟩ := h.cons_inv
  obtain ⟨c5, ys, rfl, h5, h⟩ := h.cons_inv
  obtain ⟨c6, ys, rfl, h6, h⟩ := h.cons_inv
  obtain ⟨c7, ys, rfl, h7, h⟩ := h.cons_inv
  obtain ⟨c8, ys, rfl, h8, h⟩ := h.cons_inv
  obtain ⟨c9, ys, rfl, h9, h⟩ := h.cons_inv
  obtain ⟨c10, ys, rfl, h10, h⟩ := h.cons_inv
  obtain ⟨c11, ys, rfl, h11, h⟩ := h.cons_inv
  obtain ⟨c12, ys, rfl, h12, h⟩ := h.cons_inv
  obtain ⟨c13, ys, rfl, h13, h⟩ := h.cons_inv
  obtain ⟨c14, ys, rfl, h14, h⟩ := h.cons_inv
  obtain ⟨c15, ys, rfl, h15, h⟩ := h.cons_inv
  obtain ⟨c16, ys, rfl, h16, h⟩ := h.cons_inv
  obtain ⟨c17, ys, rfl, h17, h⟩ := h.cons_inv
  obtain ⟨c18, ys, rfl, h18, h⟩ := h.cons_inv
  obtain ⟨c19, ys, rfl, h19, h⟩ := h.cons_inv
  obtain ⟨c20, ys, rfl, h20, h⟩ := h.cons_inv
  obtain ⟨c21, ys, rfl, h21, h⟩ := h.cons_inv
  obtain rfl := h.nil_inv
  obtain ⟨n0, rfl⟩ := h0.i_inv
  obtain ⟨n1, rfl⟩ := h1.i_inv
  obtain ⟨n2, rfl⟩ := h2.i_inv
  obtain ⟨n3, rfl⟩ := h3.i_inv
  obtain ⟨n4, rfl⟩ := h4.i_inv
  obtain ⟨n5, rfl⟩ := h5.i_inv
  obtain ⟨n6, rfl⟩ := h6.i_inv
  obtain ⟨n7, rfl⟩ := h7.i_inv
  obtain ⟨n8, rfl⟩ := h8.i_inv
  obtain ⟨n9, rfl⟩ := h9.sl_inv Train.enc fun _ h => Train_fit h
  obtain ⟨n10, rfl⟩ := h10.i_inv
  obtain ⟨n11, rfl⟩ := h11.i_inv
  obtain ⟨n12, rfl⟩ := h12.i_inv
  obtain ⟨n13, rfl⟩ := h13.i_inv
  obtain ⟨n14, rfl⟩ := h14.i_inv
  obtain ⟨n15, rfl⟩ := h15.i_inv
  obtain ⟨n16, rfl⟩ := h16.i_inv
  obtain ⟨n17, rfl⟩ := h17.i_inv
  obtain ⟨n18, rfl⟩ := h18.sl_inv Pause.enc fun _ h => Pause_fit h
  obtain ⟨n19, rfl⟩ := h19.b_inv
  obtain ⟨n20, rfl⟩ := h20.i_inv
  obtain ⟨n21, rfl⟩ := h21.sl_inv CallT.enc fun _ h => Call_fit h
  exact ⟨⟨⟨n0, n1, n2, n3, n4, n5, n6, n7, n8, n9⟩, ⟨n10, n11, n12, n13, n14⟩, ⟨n15, n16, n17⟩, n18, ⟨n19, n20⟩, n21⟩, rfl⟩
theorem MoverS_fit {xs : List C} (h : Fits [.sl [.b, .sl [.sl [.i, .i, .i, .i, .i, .i]], .i]] xs) : ∃ e : List Mover, xs = enc_MoverS e := by
  obtain ⟨c0, ys, rfl, h0, h⟩ := h.cons_inv
  obtain rfl := h.nil_inv
  obtain ⟨n0, rfl⟩ := h0.sl_inv Mover.enc fun _ h => Mover_fit h
  exact ⟨n0, rfl⟩
theorem Passing_fit {xs : List C} (h : Fits [.i, .i, .b, .sl [.sl [.i, .i, .i, .i, .i, .i]]] xs) : ∃ e : Passing, xs = e.enc := by
  obtain ⟨c0, ys, rfl, h0, h⟩ := h.cons_inv
  obtain ⟨c1, ys, rfl, h1, h⟩ := h.cons_inv
  obtain ⟨c2, ys, rfl, h2, h⟩ := h.cons_inv
  obtain ⟨c3, ys, rfl, h3, h⟩ := h.cons_inv
  obtain rfl := h.nil_inv
  obtain ⟨n0, rfl⟩ := h0.i_inv
  obtain ⟨n1, rfl⟩ := h1.i_inv
  obtain ⟨n2, rfl⟩ := h2.b_inv
  obtain ⟨n3, rfl⟩ := h3.sl_inv enc_BoatS fun _ h => BoatS_fit h
  exact ⟨⟨n0, n1, ⟨n2, n3⟩⟩, rfl⟩
theorem Waterway_fit {xs : List C} (h : Fits [.i, .sl [.sl [.i, .i], .i, .sl [.i]], .sl [.i, .i], .sl [.i, .i, .i, .i, .i, .i, .i, .i, .i, .sl [.b, .sl [.sl [.i, .i, .i, .i, .i, .i]]], .i, .i, .i, .i, .i, .i, .i, .i, .sl [.i, .i], .b, .i, .sl [.b, .sl [.sl [.i, .i, .i, .i, .i, .i]], .i, .i]], .sl [.sl [.b, .sl [.sl [.i, .i, .i, .i, .i, .i]], .i]], .sl [.b, .sl [.sl [.i, .i, .i, .i, .i, .i]]], .sl [.i], .i, .i, .sl [.i], .sl [.i], .sl [.i, .i, .i, .i, .i], .sl [.i, .i, .b, .sl [.sl [.i, .i, .i, .i, .i, .i]]], .i, .i, .i] xs) : ∃ e : Waterway, xs = e.enc := by
  obtain ⟨c0, ys, rfl, h0, h⟩ := h.cons_inv
  obtain ⟨c1, ys, rfl, h1, h⟩ := h.cons_inv
  obtain ⟨c2, ys, rfl, h2, h⟩ := h.cons_inv
  obtain ⟨c3, ys, rfl, h3, h⟩ := h.cons_inv
  obtain ⟨c4, ys, rfl, h4, h⟩ := h.cons_inv
  obtain ⟨c5, ys, rfl, h5, h⟩ := h.cons_inv
  obtain ⟨c6, ys, rfl, h6, h⟩ := h.cons_inv
  obtain ⟨c7, ys, rfl, h7, h⟩ := h.cons_inv
  obtain ⟨c8, ys, rfl, h8, h⟩ := h.cons_inv
  obtain ⟨c9, ys, rfl, h9, h⟩ := h.cons_inv
  obtain ⟨c10, ys, rfl, h10, h⟩ := h.cons_inv
  obtain ⟨c11, ys, rfl, h11, h⟩ := h.cons_inv
  obtain ⟨c12, ys, rfl, h12, h⟩ := h.cons_inv
  obtain ⟨c13, ys, rfl, h13, h⟩ := h.cons_inv
  obtain ⟨c14, ys, rfl, h14, h⟩ := h.cons_inv
  obtain ⟨c15, ys, rfl, h15, h⟩ := h.cons_inv
  obtain rfl := h.nil_inv
  obtain ⟨n0, rfl⟩ := h0.i_inv
  obtain ⟨n1, rfl⟩ := h1.sl_inv Reach.enc fun _ h => Reach_fit h
  obtain ⟨n2, rfl⟩ := h2.sl_inv Way.enc fun _ h => Way_fit h
  obtain ⟨n3, rfl⟩ := h3.sl_inv Work.enc fun _ h => Work_fit h
  obtain ⟨n4, rfl⟩ := h4.sl_inv enc_MoverS fun _ h => MoverS_fit h
  obtain ⟨n5, rfl⟩ := h5.sl_inv Train.enc fun _ h => Train_fit h
  obtain ⟨n6, rfl⟩ := h6.sl_inv ienc fun _ h => ienc_fit h
  obtain ⟨n7, rfl⟩ := h7.i_inv
  obtain ⟨n8, rfl⟩ := h8.i_inv
  obtain ⟨n9, rfl⟩ := h9.sl_inv ienc fun _ h => ienc_fit h
  obtain ⟨n10, rfl⟩ := h10.sl_inv ienc fun _ h => ienc_fit h
  obtain ⟨n11, rfl⟩ := h11.sl_inv Entry.enc fun _ h => Entry_fit h
  obtain ⟨n12, rfl⟩ := h12.sl_inv Passing.enc fun _ h => Passing_fit h
  obtain ⟨n13, rfl⟩ := h13.i_inv
  obtain ⟨n14, rfl⟩ := h14.i_inv
  obtain ⟨n15, rfl⟩ := h15.i_inv
  exact ⟨⟨n0, n1, n2, n3, n4, n5, n6, ⟨n7, n8, n9, n10⟩, n11, n12, n13, n14, n15⟩, rfl⟩
theorem isLaw_FnExactPlacesOf : IsLaw Rows.fnExactPlacesOfSpec Tryz.f3.params.size := by
  refine ⟨rfl, fun H ds h => ?_⟩
  match ds, h with
  | [d0], _ => rfl
theorem lawFacts_FnExactPlacesOf : LawFacts Tryz.prog Tryz.f3 (Tryz.f3.resultTypes.getD 0 0) [(true, [.i, .sl [.sl [.i, .i], .i, .sl [.i]], .sl [.i, .i], .sl [.i, .i, .i, .i, .i, .i, .i, .i, .i, .sl [.b, .sl [.sl [.i, .i, .i, .i, .i, .i]]], .i, .i, .i, .i, .i, .i, .i, .i, .sl [.i, .i], .b, .i, .sl [.b, .sl [.sl [.i, .i, .i, .i, .i, .i]], .i, .i]], .sl [.sl [.b, .sl [.sl [.i, .i, .i, .i, .i, .i]], .i]], .sl [.b, .sl [.sl [.i, .i, .i, .i, .i, .i]]], .sl [.i], .i, .i, .sl [.i], .sl [.i], .sl [.i, .i, .i, .i, .i], .sl [.i, .i, .b, .sl [.sl [.i, .i, .i, .i, .i, .i]]], .i, .i, .i])] :=
  ⟨fact_laid, by kernel_rfl, by kernel_rfl, by kernel_rfl, by kernel_rfl⟩
set_option maxRecDepth 100000 in
theorem lifted_FnExactPlacesOf (os : Os) (started : os.Started) (H : Type) (enc : TypeId × Value → H) :
    ReturnsInHanded {} Tryz.checked os 3 .any (Rows.fnExactPlacesOfSpec.pre6 enc Tryz.prog Tryz.f3 Rows.fnExactPlacesOfRow.domain false) (Rows.fnExactPlacesOfSpec.post enc Tryz.prog Tryz.f3 false true false false) := by
  refine law_lifted (C := Tryz.checked) fact_own started (by kernel_rfl) Tryz.func3
    (ChangeSpec.witness6 (enc := enc) (C := Tryz.checked) false ⟨#[], #[.agg #[.int .i64 0, .slice none 0 0, .slice none 0 0, .slice none 0 0, .slice none 0 0, .slice none 0 0, .slice none 0 0, .int .i64 0, .int .i64 0, .slice none 0 0, .slice none 0 0, .slice none 0 0, .slice none 0 0, .int .i64 0, .int .i64 0, .int .i64 0]], []⟩ 8 (by kernel_rfl) (by kernel_rfl) (by kernel_rfl) (by kernel_rfl)) isLaw_FnExactPlacesOf lawFacts_FnExactPlacesOf ?_
  rintro avs ⟨a, avs0, rfl, ha, rfl⟩
  cases ha with
  | st h0 =>
    obtain ⟨x0, rfl⟩ := Waterway_fit h0
    exact FnExactPlacesOf_c x0
theorem facts_FnExactPlacesOf : rowFacts Tryz.prog 3 Tryz.f3 Rows.fnExactPlacesOfSpec Rows.fnExactPlacesOfRow = true := by kernel_rfl
theorem named_FnExactPlacesOf : Tryz.pinned.checked.prog.funcNamed Rows.fnExactPlacesOfRow.func = some 3 := by kernel_rfl
theorem inst_FnExactPlacesOf : Tryz.f3.isInstance Tryz.pinned.checked.prog Rows.fnExactPlacesOfRow.origin Rows.fnExactPlacesOfRow.targs := (of_decide_eq_true (by kernel_rfl))
theorem wrap_FnExactPlacesOf : Tryz.f3.isWrapper Tryz.pinned.checked.prog Rows.fnExactPlacesOfRow.wrapper Rows.fnExactPlacesOfRow.mainSum := by
  unfold Func.isWrapper; first | (rw [if_pos (by decide +kernel)]; kernel_rfl) | (rw [if_neg (by decide +kernel)]; exact ⟨rfl, rfl⟩)
theorem FnExactPlacesOf_holds : Rows.FnExactPlacesOfSaid :=
  OpenClaim.holds_of_wide (p := Tryz.pinned) (s := Rows.fnExactPlacesOfSpec) (c := Rows.fnExactPlacesOfRow) 3 Tryz.f3 rfl rfl rfl rfl rfl rfl rfl ⟨rfl, rfl, rfl, rfl, rfl⟩ rfl rfl rfl rfl rfl named_FnExactPlacesOf Tryz.func3
    (joined_of seatFacts facts_FnExactPlacesOf ⟨rfl, rfl, rfl, rfl, rfl, rfl, rfl, rfl⟩) inst_FnExactPlacesOf wrap_FnExactPlacesOf (fun os started H enc _ => lifted_FnExactPlacesOf os started H enc)
end Go.Proofs.YtmimbhooaidelaaGreat
