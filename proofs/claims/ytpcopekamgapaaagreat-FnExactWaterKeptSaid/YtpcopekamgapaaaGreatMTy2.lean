/- Contracts of functions of this seat: what each answers, as plain Lean. -/
import Derived.Test.YtpcopekamgapaaaGreatMT2
set_option linter.all false
namespace Go.Proofs.YtpcopekamgapaaaGreat
open Go.RowKit

def sz_IntS (xs : List Int) (l : Int) : Int := szS xs.length l
def small_IntS : List Int → Prop := smallS fun _ => True
theorem sz_IntS_ok : SzOk sz_IntS small_IntS := szS_ok'
theorem sz_IntS_c (xs : List Int) (l : Int) (h0 : 0 ≤ l) (h1 : l ≤ 1048576) : PureF Tryz.prog n_laws_szIntS [.c (.sl 1 (xs.map ienc)), .c (.i l)] (.c (.i (sz_IntS xs l))) := szIntS_c xs l h0 h1

structure Point where
  X : Int
  Y : Int
  deriving DecidableEq, Inhabited
@[simp] def Point.enc (e : Point) : List C := [.i e.X, .i e.Y]
-- Point
theorem toPoint_c (e : Point) : PureF Tryz.prog n_laws_toPoint [.agg (e.enc.map .c)] (.agg (e.enc.map .c)) := by
  refine pure_of h_laws_toPoint (by simp) fun hwf => ?_
  simp -dsimp -implicitDefEqProofs [c_laws_toPoint]
theorem eqPoint_c (a b : Point) : PureF Tryz.prog n_laws_eqPoint [.agg (a.enc.map .c), .agg (b.enc.map .c)] (.c (.b (decide (a = b)))) := by
  refine pure_of h_laws_eqPoint (by simp) fun hwf => ?_
  obtain ⟨a0, a1⟩ := a
  obtain ⟨b0, b1⟩ := b
  simp -dsimp -implicitDefEqProofs [c_laws_eqPoint, Point.mk.injEq]
  refine ⟨fun h => by simp_all, fun h0 => ?_⟩
  refine ⟨fun h => by simp_all, fun h1 => ?_⟩
  simp_all
-- []Point
def sz_PointS (xs : List Point) (l : Int) : Int := szS xs.length l
def small_PointS : List Point → Prop := smallS fun _ => True
theorem sz_PointS_ok : SzOk sz_PointS small_PointS := szS_ok'
theorem sz_PointS_c (xs : List Point) (l : Int) (h0 : 0 ≤ l) (h1 : l ≤ 1048576) : PureF Tryz.prog n_laws_szPointS [.c (.sl 2 (xs.map Point.enc)), .c (.i l)] (.c (.i (sz_PointS xs l))) := by
  refine pure_of h_laws_szPointS (by simp) fun hwf => ?_
  simp -dsimp -implicitDefEqProofs [c_laws_szPointS, sz_PointS, szS]
  intro hl
  unfold maxLen at hl
  refine ⟨by unfold inI; omega, fun h => ?_, fun h => ?_⟩ <;> intros <;> omega
theorem toPointS_c (xs : List Point) (hl : small_PointS xs) : PureF Tryz.prog n_laws_toPointS [.c (.sl 2 (xs.map Point.enc))] (.c (.sl 2 (xs.map Point.enc))) := by
  refine pure_of h_laws_toPointS (by simp) fun hwf => ?_
  simp -dsimp -implicitDefEqProofs [c_laws_toPointS]
  intro hlen
  have hl1 := hl.1
  refine ⟨by omega, ?_⟩
  refine loop_rule (ι := Nat) (fun k => k ≤ xs.length) (fun k => stOf [(0, .c (.sl 2 (xs.map Point.enc))), (3, .own 7 2 xs.length), (4, .c (.i k))] [(7, .row 2 (partly Point.enc [.i 0, .i 0] xs k))]) (fun k => xs.length - k) 0 (by simp) (by apply le_of <;> simp [AV.refs1, AV.ref0, Obj.refs1, partly_zero]) ?_
  rintro k hk
  rcases Nat.lt_or_ge k xs.length with hlt | hge
  · obtain ⟨e, he⟩ : ∃ e, xs[k]? = some e := ⟨_, List.getElem?_eq_getElem hlt⟩
    have hs := partly_set (f := Point.enc) (z := [.i 0, .i 0]) he
    have hd := partly_drop (f := Point.enc) (z := [.i 0, .i 0]) (n := 2) rfl hlt
    simp only [Point.enc] at hs
    simp -dsimp -implicitDefEqProofs [he, lt_t hlt]
    refine fun _ => call_pure (toPoint_c e ) (by simp) rfl ?_
    simp -dsimp -implicitDefEqProofs [lt_t hlt, partly_len hk, hd, hs]
    exact ⟨hlt, inI_succ hlt hlen, k + 1, hlt, by omega, by apply le_of <;> simp [AV.refs1, AV.ref0, Obj.refs1]⟩
  · simp -dsimp -implicitDefEqProofs [lt_f hge]
    intro _
    rw [partly_all hge, List.take_of_length_le (by simp)]
theorem eqPointS_c (es fs : List Point) : PureF Tryz.prog n_laws_eqPointS [.c (.sl 2 (es.map Point.enc)), .c (.sl 2 (fs.map Point.enc))] (.c (.b (decide (es = fs)))) := by
  refine pure_of h_laws_eqPointS (by simp) fun hwf => ?_
  simp -dsimp -implicitDefEqProofs [c_laws_eqPointS]
  intro hl1 hl2
  refine ⟨fun h e => h (by rw [e]), fun hlen => ?_⟩
  have hlen' : es.length = fs.length := by omega
  refine loop_rule (ι := Nat) (fun k => k ≤ es.length ∧ es.take k = fs.take k) (fun k => stOf [(0, .c (.sl 2 (es.map Point.enc))), (1, .c (.sl 2 (fs.map Point.enc))), (5, .c (.i k))] []) (fun k => es.length - k) 0 (by simp) (by apply le_of <;> simp [AV.refs1, AV.ref0, Obj.refs1]) ?_
  rintro k ⟨hk, htk⟩
  rcases Nat.lt_or_ge k es.length with hlt | hge
  · obtain ⟨e, he⟩ : ∃ e, es[k]? = some e := ⟨_, List.getElem?_eq_getElem hlt⟩
    obtain ⟨f, hf⟩ : ∃ f, fs[k]? = some f := ⟨_, List.getElem?_eq_getElem (by omega)⟩
    simp -dsimp -implicitDefEqProofs [he, hf, lt_t hlt, lt_t (hlen' ▸ hlt)]
    intro _
    refine ⟨_, _, eqPoint_c e f, by simp, .inr rfl, ?_⟩
    simp -dsimp -implicitDefEqProofs
    refine ⟨fun h => ne_of_get he hf h, fun h => ⟨inI_succ hlt hl1, k + 1, ⟨hlt, take_eq_succ he hf htk h⟩, by omega, by apply le_of <;> simp [AV.refs1, AV.ref0, Obj.refs1]⟩⟩
  · simp -dsimp -implicitDefEqProofs [lt_f hge]
    intro _
    exact eq_of_take hge hlen' htk
structure Reach where
  Table : List Point
  Volume : Int
  Pipe : List Int
  deriving DecidableEq, Inhabited
@[simp] def Reach.enc (e : Reach) : List C := [.sl 2 (e.Table.map Point.enc), .i e.Volume, .sl 1 (e.Pipe.map ienc)]
-- Reach
def sz_Reach (e : Reach) (l : Int) : Int := andSz (sz_PointS e.Table l) fun l => andSz (sz_IntS e.Pipe l) fun l => l
def Reach.small (e : Reach) : Prop := small_PointS e.Table ∧ small_IntS e.Pipe
theorem sz_Reach_ok : SzOk sz_Reach Reach.small := by
  intro e l h0 h1
  unfold sz_Reach
  rcases sz_PointS_ok e.Table _ h0 h1 with e0 | ⟨a0, b0, s0⟩
  · exact .inl (andSz_neg (by omega))
  rw [andSz_pos a0]
  rcases sz_IntS_ok e.Pipe _ a0 (by omega) with e1 | ⟨a1, b1, s1⟩
  · exact .inl (andSz_neg (by omega))
  rw [andSz_pos a1]
  exact .inr ⟨a1, by omega, s0, s1⟩
theorem sz_Reach_c (e : Reach) (l : Int) (h0 : 0 ≤ l) (h1 : l ≤ 1048576) : PureF Tryz.prog n_laws_szReach [.agg (e.enc.map .c), .c (.i l)] (.c (.i (sz_Reach e l))) := by
  refine pure_of h_laws_szReach (by simp) fun hwf => ?_
  simp -dsimp -implicitDefEqProofs [c_laws_szReach]
  refine call_lend (sz_PointS_c e.Table _ h0 h1) (by simp) rfl ?_
  simp -dsimp -implicitDefEqProofs
  refine ⟨fun h => by simp [sz_Reach, andSz_neg h], fun p0 => ?_⟩
  have q0 := sz_le sz_PointS_ok e.Table h0 h1 p0
  refine call_lend (sz_IntS_c e.Pipe _ p0 q0) (by simp) rfl ?_
  simp -dsimp -implicitDefEqProofs
  refine ⟨fun h => by simp [sz_Reach, andSz_pos p0, andSz_neg h], fun p1 => ?_⟩
  simp [sz_Reach, andSz_pos p0, andSz_pos p1]
theorem toReach_c (e : Reach) (hl : Reach.small e) : PureF Tryz.prog n_laws_toReach [.agg (e.enc.map .c)] (.agg (e.enc.map .c)) := by
  refine pure_of h_laws_toReach (by simp) fun hwf => ?_
  simp -dsimp -implicitDefEqProofs [c_laws_toReach]
  first
    | refine call_pure (toPointS_c e.Table (hl.1)) (by simp) rfl ?_
    | refine ⟨_, _, toPointS_c e.Table (hl.1), by simp, .inl rfl, ?_⟩
  simp -dsimp -implicitDefEqProofs
  first
    | refine call_pure (toIntS_c e.Pipe (hl.2.1)) (by simp) rfl ?_
    | refine ⟨_, _, toIntS_c e.Pipe (hl.2.1), by simp, .inl rfl, ?_⟩
  simp -dsimp -implicitDefEqProofs
theorem eqReach_c (a b : Reach) : PureF Tryz.prog n_laws_eqReach [.agg (a.enc.map .c), .agg (b.enc.map .c)] (.c (.b (decide (a = b)))) := by
  refine pure_of h_laws_eqReach (by simp) fun hwf => ?_
  obtain ⟨a0, a1, a2⟩ := a
  obtain ⟨b0, b1, b2⟩ := b
  simp -dsimp -implicitDefEqProofs [c_laws_eqReach, Reach.mk.injEq]
  first
    | refine call_lend (eqPointS_c a0 b0) (by simp) rfl ?_
    | refine ⟨_, _, eqPointS_c a0 b0, by simp, .inr rfl, ?_⟩
  simp -dsimp -implicitDefEqProofs
  refine ⟨fun h => by simp_all, fun h0 => ?_⟩
  refine ⟨fun h => by simp_all, fun h1 => ?_⟩
  first
    | refine call_lend (eqIntS_c a2 b2) (by simp) rfl ?_
    | refine ⟨_, _, eqIntS_c a2 b2, by simp, .inr rfl, ?_⟩
  simp -dsimp -implicitDefEqProofs
  refine ⟨fun h => by simp_all, fun h2 => ?_⟩
  simp_all


end Go.Proofs.YtpcopekamgapaaaGreat
