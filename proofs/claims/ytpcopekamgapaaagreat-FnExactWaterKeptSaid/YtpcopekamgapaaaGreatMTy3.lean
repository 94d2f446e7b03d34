/- Contracts of functions of this seat: what each answers, as plain Lean. -/
import Derived.Test.YtpcopekamgapaaaGreatMTy2
set_option linter.all false
namespace Go.Proofs.YtpcopekamgapaaaGreat
open Go.RowKit

-- []Train
def sz_TrainS : List Train → Int → Int := szSS sz_Train
def small_TrainS : List Train → Prop := smallS Train.small
theorem sz_TrainS_ok : SzOk sz_TrainS small_TrainS := szSS_ok sz_Train_ok
theorem sz_TrainS_c (xs : List Train) (l : Int) (h0 : 0 ≤ l) (h1 : l ≤ 1048576) : PureF Tryz.prog n_laws_szTrainS [.c (.sl 2 (xs.map Train.enc)), .c (.i l)] (.c (.i (sz_TrainS xs l))) := by
  refine pure_of h_laws_szTrainS (by simp) fun hwf => ?_
  simp -dsimp -implicitDefEqProofs [c_laws_szTrainS]
  intro hl
  have hs : szS xs.length l = if l - xs.length < 0 then -1 else l - xs.length := rfl
  refine ⟨by unfold maxLen at hl; unfold inI; omega, fun h => ?_, fun h => ?_⟩
  · simp [sz_TrainS, szSS, andSz, hs, h]
  have h' : 0 ≤ l - xs.length := by omega
  have e0 : sz_TrainS xs l = foldSz sz_Train xs (l - xs.length) := by
    have : szS xs.length l = l - xs.length := by rw [hs, if_neg (by omega)]
    simp only [sz_TrainS, szSS]
    rw [this, andSz_pos h']
  refine loop_rule (ι := Nat × Int) (fun p => p.1 ≤ xs.length ∧ 0 ≤ p.2 ∧ p.2 ≤ 1048576 ∧ foldSz sz_Train (xs.drop p.1) p.2 = sz_TrainS xs l) (fun p => stOf [(0, .c (.sl 2 (xs.map Train.enc))), (1, .c (.i p.2)), (5, .c (.i p.1))] []) (fun p => xs.length - p.1) (0, l - xs.length) ⟨by simp, h', by simp only; omega, by simp [e0]⟩ (by apply le_of <;> simp [AV.refs1, AV.ref0, Obj.refs1]) ?_
  rintro ⟨k, q⟩ ⟨hk, hq0, hq1, hf⟩
  simp only at hk hq0 hq1 hf
  rcases Nat.lt_or_ge k xs.length with hlt | hge
  · obtain ⟨e, he⟩ : ∃ e, xs[k]? = some e := ⟨_, List.getElem?_eq_getElem hlt⟩
    have hd : xs.drop k = e :: xs.drop (k + 1) := by
      rw [List.drop_eq_getElem_cons hlt, (List.getElem?_eq_some_iff.1 he).2]
    rw [hd, foldSz] at hf
    simp -dsimp -implicitDefEqProofs [he, lt_t hlt]
    refine fun _ => call_lend (sz_Train_c e q hq0 hq1) (by simp) rfl ?_
    simp -dsimp -implicitDefEqProofs
    refine ⟨fun h => by rw [← hf, andSz_neg h], fun h => ⟨inI_succ hlt hl, k + 1, ⟨sz_Train e q, ?_⟩⟩⟩
    rw [andSz_pos h] at hf
    have hle : sz_Train e q ≤ 1048576 := by
      rcases sz_Train_ok e q hq0 hq1 with e1 | e1
      · omega
      · omega
    exact ⟨⟨hlt, h, hle, hf⟩, by omega, by apply le_of <;> simp [AV.refs1, AV.ref0, Obj.refs1]⟩
  · simp -dsimp -implicitDefEqProofs [lt_f hge]
    rw [List.drop_of_length_le hge] at hf
    intro _
    first | simpa [foldSz] using hf | simpa [foldSz] using hf.symm
theorem toTrainS_c (xs : List Train) (hl : small_TrainS xs) : PureF Tryz.prog n_laws_toTrainS [.c (.sl 2 (xs.map Train.enc))] (.c (.sl 2 (xs.map Train.enc))) := by
  refine pure_of h_laws_toTrainS (by simp) fun hwf => ?_
  simp -dsimp -implicitDefEqProofs [c_laws_toTrainS]
  intro hlen
  have hl1 := hl.1
  refine ⟨by omega, ?_⟩
  refine loop_rule (ι := Nat) (fun k => k ≤ xs.length) (fun k => stOf [(0, .c (.sl 2 (xs.map Train.enc))), (3, .own 7 2 xs.length), (4, .c (.i k))] [(7, .row 2 (partly Train.enc [.b false, .sl 1 []] xs k))]) (fun k => xs.length - k) 0 (by simp) (by apply le_of <;> simp [AV.refs1, AV.ref0, Obj.refs1, partly_zero]) ?_
  rintro k hk
  rcases Nat.lt_or_ge k xs.length with hlt | hge
  · obtain ⟨e, he⟩ : ∃ e, xs[k]? = some e := ⟨_, List.getElem?_eq_getElem hlt⟩
    have hs := partly_set (f := Train.enc) (z := [.b false, .sl 1 []]) he
    have hd := partly_drop (f := Train.enc) (z := [.b false, .sl 1 []]) (n := 2) rfl hlt
    simp only [Train.enc] at hs
    simp -dsimp -implicitDefEqProofs [he, lt_t hlt]
    refine fun _ => call_pure (toTrain_c e (hl.2 e (List.mem_of_getElem? he))) (by simp) rfl ?_
    simp -dsimp -implicitDefEqProofs [lt_t hlt, partly_len hk, hd, hs]
    exact ⟨hlt, inI_succ hlt hlen, k + 1, hlt, by omega, by apply le_of <;> simp [AV.refs1, AV.ref0, Obj.refs1]⟩
  · simp -dsimp -implicitDefEqProofs [lt_f hge]
    intro _
    rw [partly_all hge, List.take_of_length_le (by simp)]
theorem eqTrainS_c (es fs : List Train) : PureF Tryz.prog n_laws_eqTrainS [.c (.sl 2 (es.map Train.enc)), .c (.sl 2 (fs.map Train.enc))] (.c (.b (decide (es = fs)))) := by
  refine pure_of h_laws_eqTrainS (by simp) fun hwf => ?_
  simp -dsimp -implicitDefEqProofs [c_laws_eqTrainS]
  intro hl1 hl2
  refine ⟨fun h e => h (by rw [e]), fun hlen => ?_⟩
  have hlen' : es.length = fs.length := by omega
  refine loop_rule (ι := Nat) (fun k => k ≤ es.length ∧ es.take k = fs.take k) (fun k => stOf [(0, .c (.sl 2 (es.map Train.enc))), (1, .c (.sl 2 (fs.map Train.enc))), (5, .c (.i k))] []) (fun k => es.length - k) 0 (by simp) (by apply le_of <;> simp [AV.refs1, AV.ref0, Obj.refs1]) ?_
  rintro k ⟨hk, htk⟩
  rcases Nat.lt_or_ge k es.length with hlt | hge
  · obtain ⟨e, he⟩ : ∃ e, es[k]? = some e := ⟨_, List.getElem?_eq_getElem hlt⟩
    obtain ⟨f, hf⟩ : ∃ f, fs[k]? = some f := ⟨_, List.getElem?_eq_getElem (by omega)⟩
    simp -dsimp -implicitDefEqProofs [he, hf, lt_t hlt, lt_t (hlen' ▸ hlt)]
    intro _
    refine ⟨_, _, eqTrain_c e f, by simp, .inr rfl, ?_⟩
    simp -dsimp -implicitDefEqProofs
    refine ⟨fun h => ne_of_get he hf h, fun h => ⟨inI_succ hlt hl1, k + 1, ⟨hlt, take_eq_succ he hf htk h⟩, by omega, by apply le_of <;> simp [AV.refs1, AV.ref0, Obj.refs1]⟩⟩
  · simp -dsimp -implicitDefEqProofs [lt_f hge]
    intro _
    exact eq_of_take hge hlen' htk
structure Lock where
  Length : Int
  Width : Int
  SillAbove : Int
  SillBelow : Int
  Base : Int
  Area : Int
  Rate : Int
  Water : Int
  Gate : Int
  Inside : List Train
  deriving DecidableEq, Inhabited
@[simp] def Lock.enc (e : Lock) : List C := [.i e.Length, .i e.Width, .i e.SillAbove, .i e.SillBelow, .i e.Base, .i e.Area, .i e.Rate, .i e.Water, .i e.Gate, .sl 2 (e.Inside.map Train.enc)]
-- Lock
def sz_Lock (e : Lock) (l : Int) : Int := andSz (sz_TrainS e.Inside l) fun l => l
def Lock.small (e : Lock) : Prop := small_TrainS e.Inside
theorem sz_Lock_ok : SzOk sz_Lock Lock.small := by
  intro e l h0 h1
  unfold sz_Lock
  rcases sz_TrainS_ok e.Inside _ h0 h1 with e0 | ⟨a0, b0, s0⟩
  · exact .inl (andSz_neg (by omega))
  rw [andSz_pos a0]
  exact .inr ⟨a0, by omega, s0⟩
theorem sz_Lock_c (e : Lock) (l : Int) (h0 : 0 ≤ l) (h1 : l ≤ 1048576) : PureF Tryz.prog n_laws_szLock [.agg (e.enc.map .c), .c (.i l)] (.c (.i (sz_Lock e l))) := by
  refine pure_of h_laws_szLock (by simp) fun hwf => ?_
  simp -dsimp -implicitDefEqProofs [c_laws_szLock]
  refine call_lend (sz_TrainS_c e.Inside _ h0 h1) (by simp) rfl ?_
  simp -dsimp -implicitDefEqProofs
  refine ⟨fun h => by simp [sz_Lock, andSz_neg h], fun p0 => ?_⟩
  simp [sz_Lock, andSz_pos p0]
theorem toLock_c (e : Lock) (hl : Lock.small e) : PureF Tryz.prog n_laws_toLock [.agg (e.enc.map .c)] (.agg (e.enc.map .c)) := by
  refine pure_of h_laws_toLock (by simp) fun hwf => ?_
  simp -dsimp -implicitDefEqProofs [c_laws_toLock]
  first
    | refine call_pure (toTrainS_c e.Inside hl) (by simp) rfl ?_
    | refine ⟨_, _, toTrainS_c e.Inside hl, by simp, .inl rfl, ?_⟩
  simp -dsimp -implicitDefEqProofs
theorem eqLock_c (a b : Lock) : PureF Tryz.prog n_laws_eqLock [.agg (a.enc.map .c), .agg (b.enc.map .c)] (.c (.b (decide (a = b)))) := by
  refine pure_of h_laws_eqLock (by simp) fun hwf => ?_
  obtain ⟨a0, a1, a2, a3, a4, a5, a6, a7, a8, a9⟩ := a
  obtain ⟨b0, b1, b2, b3, b4, b5, b6, b7, b8, b9⟩ := b
  simp -dsimp -implicitDefEqProofs [c_laws_eqLock, Lock.mk.injEq]
  refine ⟨fun h => by simp_all, fun h0 => ?_⟩
  refine ⟨fun h => by simp_all, fun h1 => ?_⟩
  refine ⟨fun h => by simp_all, fun h2 => ?_⟩
  refine ⟨fun h => by simp_all, fun h3 => ?_⟩
  refine ⟨fun h => by simp_all, fun h4 => ?_⟩
  refine ⟨fun h => by simp_all, fun h5 => ?_⟩
  refine ⟨fun h => by simp_all, fun h6 => ?_⟩
  refine ⟨fun h => by simp_all, fun h7 => ?_⟩
  refine ⟨fun h => by simp_all, fun h8 => ?_⟩
  first
    | refine call_lend (eqTrainS_c a9 b9) (by simp) rfl ?_
    | refine ⟨_, _, eqTrainS_c a9 b9, by simp, .inr rfl, ?_⟩
  simp -dsimp -implicitDefEqProofs
  refine ⟨fun h => by simp_all, fun h9 => ?_⟩
  simp_all
structure Weir where
  Gates : Int
  Open : Int
  Step : Int
  Crest : Int
  Width : Int
  deriving DecidableEq, Inhabited
@[simp] def Weir.enc (e : Weir) : List C := [.i e.Gates, .i e.Open, .i e.Step, .i e.Crest, .i e.Width]
-- Weir
theorem toWeir_c (e : Weir) : PureF Tryz.prog n_laws_toWeir [.agg (e.enc.map .c)] (.agg (e.enc.map .c)) := by
  refine pure_of h_laws_toWeir (by simp) fun hwf => ?_
  simp -dsimp -implicitDefEqProofs [c_laws_toWeir]
theorem eqWeir_c (a b : Weir) : PureF Tryz.prog n_laws_eqWeir [.agg (a.enc.map .c), .agg (b.enc.map .c)] (.c (.b (decide (a = b)))) := by
  refine pure_of h_laws_eqWeir (by simp) fun hwf => ?_
  obtain ⟨a0, a1, a2, a3, a4⟩ := a
  obtain ⟨b0, b1, b2, b3, b4⟩ := b
  simp -dsimp -implicitDefEqProofs [c_laws_eqWeir, Weir.mk.injEq]
  refine ⟨fun h => by simp_all, fun h0 => ?_⟩
  refine ⟨fun h => by simp_all, fun h1 => ?_⟩
  refine ⟨fun h => by simp_all, fun h2 => ?_⟩
  refine ⟨fun h => by simp_all, fun h3 => ?_⟩
  refine ⟨fun h => by simp_all, fun h4 => ?_⟩
  simp_all
structure Rule where
  Low : Int
  High : Int
  Flood : Int
  deriving DecidableEq, Inhabited
@[simp] def Rule.enc (e : Rule) : List C := [.i e.Low, .i e.High, .i e.Flood]
-- Rule
theorem toRule_c (e : Rule) : PureF Tryz.prog n_laws_toRule [.agg (e.enc.map .c)] (.agg (e.enc.map .c)) := by
  refine pure_of h_laws_toRule (by simp) fun hwf => ?_
  simp -dsimp -implicitDefEqProofs [c_laws_toRule]
theorem eqRule_c (a b : Rule) : PureF Tryz.prog n_laws_eqRule [.agg (a.enc.map .c), .agg (b.enc.map .c)] (.c (.b (decide (a = b)))) := by
  refine pure_of h_laws_eqRule (by simp) fun hwf => ?_
  obtain ⟨a0, a1, a2⟩ := a
  obtain ⟨b0, b1, b2⟩ := b
  simp -dsimp -implicitDefEqProofs [c_laws_eqRule, Rule.mk.injEq]
  refine ⟨fun h => by simp_all, fun h0 => ?_⟩
  refine ⟨fun h => by simp_all, fun h1 => ?_⟩
  refine ⟨fun h => by simp_all, fun h2 => ?_⟩
  simp_all
structure Pause where
  From : Int
  Until : Int
  deriving DecidableEq, Inhabited
@[simp] def Pause.enc (e : Pause) : List C := [.i e.From, .i e.Until]
-- Pause
theorem toPause_c (e : Pause) : PureF Tryz.prog n_laws_toPause [.agg (e.enc.map .c)] (.agg (e.enc.map .c)) := by
  refine pure_of h_laws_toPause (by simp) fun hwf => ?_
  simp -dsimp -implicitDefEqProofs [c_laws_toPause]
theorem eqPause_c (a b : Pause) : PureF Tryz.prog n_laws_eqPause [.agg (a.enc.map .c), .agg (b.enc.map .c)] (.c (.b (decide (a = b)))) := by
  refine pure_of h_laws_eqPause (by simp) fun hwf => ?_
  obtain ⟨a0, a1⟩ := a
  obtain ⟨b0, b1⟩ := b
  simp -dsimp -implicitDefEqProofs [c_laws_eqPause, Pause.mk.injEq]
  refine ⟨fun h => by simp_all, fun h0 => ?_⟩
  refine ⟨fun h => by simp_all, fun h1 => ?_⟩
  simp_all
-- []Pause
def sz_PauseS (xs : List Pause) (l : Int) : Int := szS xs.length l
def small_PauseS : List Pause → Prop := smallS fun _ => True
theorem sz_PauseS_ok : SzOk sz_PauseS small_PauseS := szS_ok'
theorem sz_PauseS_c (xs : List Pause) (l : Int) (h0 : 0 ≤ l) (h1 : l ≤ 1048576) : PureF Tryz.prog n_laws_szPauseS [.c (.sl 2 (xs.map Pause.enc)), .c (.i l)] (.c (.i (sz_PauseS xs l))) := by
  refine pure_of h_laws_szPauseS (by simp) fun hwf => ?_
  simp -dsimp -implicitDefEqProofs [c_laws_szPauseS, sz_PauseS, szS]
  intro hl
  unfold maxLen at hl
  refine ⟨by unfold inI; omega, fun h => ?_, fun h => ?_⟩ <;> intros <;> omega
theorem toPauseS_c (xs : List Pause) (hl : small_PauseS xs) : PureF Tryz.prog n_laws_toPauseS [.c (.sl 2 (xs.map Pause.enc))] (.c (.sl 2 (xs.map Pause.enc))) := by
  refine pure_of h_laws_toPauseS (by simp) fun hwf => ?_
  simp -dsimp -implicitDefEqProofs [c_laws_toPauseS]
  intro hlen
  have hl1 := hl.1
  refine ⟨by omega, ?_⟩
  refine loop_rule (ι := Nat) (fun k => k ≤ xs.length) (fun k => stOf [(0, .c (.sl 2 (xs.map Pause.enc))), (3, .own 7 2 xs.length), (4, .c (.i k))] [(7, .row 2 (partly Pause.enc [.i 0, .i 0] xs k))]) (fun k => xs.length - k) 0 (by simp) (by apply le_of <;> simp [AV.refs1, AV.ref0, Obj.refs1, partly_zero]) ?_
  rintro k hk
  rcases Nat.lt_or_ge k xs.length with hlt | hge
  · obtain ⟨e, he⟩ : ∃ e, xs[k]? = some e := ⟨_, List.getElem?_eq_getElem hlt⟩
    have hs := partly_set (f := Pause.enc) (z := [.i 0, .i 0]) he
    have hd := partly_drop (f := Pause.enc) (z := [.i 0, .i 0]) (n := 2) rfl hlt
    simp only [Pause.enc] at hs
    simp -dsimp -implicitDefEqProofs [he, lt_t hlt]
    refine fun _ => call_pure (toPause_c e ) (by simp) rfl ?_
    simp -dsimp -implicitDefEqProofs [lt_t hlt, partly_len hk, hd, hs]
    exact ⟨hlt, inI_succ hlt hlen, k + 1, hlt, by omega, by apply le_of <;> simp [AV.refs1, AV.ref0, Obj.refs1]⟩
  · simp -dsimp -implicitDefEqProofs [lt_f hge]
    intro _
    rw [partly_all hge, List.take_of_length_le (by simp)]
theorem eqPauseS_c (es fs : List Pause) : PureF Tryz.prog n_laws_eqPauseS [.c (.sl 2 (es.map Pause.enc)), .c (.sl 2 (fs.map Pause.enc))] (.c (.b (decide (es = fs)))) := by
  refine pure_of h_laws_eqPauseS (by simp) fun hwf => ?_
  simp -dsimp -implicitDefEqProofs [c_laws_eqPauseS]
  intro hl1 hl2
  refine ⟨fun h e => h (by rw [e]), fun hlen => ?_⟩
  have hlen' : es.length = fs.length := by omega
  refine loop_rule (ι := Nat) (fun k => k ≤ es.length ∧ es.take k = fs.take k) (fun k => stOf [(0, .c (.sl 2 (es.map Pause.enc))), (1, .c (.sl 2 (fs.map Pause.enc))), (5, .c (.i k))] []) (fun k => es.length - k) 0 (by simp) (by apply le_of <;> simp [AV.refs1, AV.ref0, Obj.refs1]) ?_
  rintro k ⟨hk, htk⟩
  rcases Nat.lt_or_ge k es.length with hlt | hge
  · obtain ⟨e, he⟩ : ∃ e, es[k]? = some e := ⟨_, List.getElem?_eq_getElem hlt⟩
    obtain ⟨f, hf⟩ : ∃ f, fs[k]? = some f := ⟨_, List.getElem?_eq_getElem (by omega)⟩
    simp -dsimp -implicitDefEqProofs [he, hf, lt_t hlt, lt_t (hlen' ▸ hlt)]
    intro _
    refine ⟨_, _, eqPause_c e f, by simp, .inr rfl, ?_⟩
    simp -dsimp -implicitDefEqProofs
    refine ⟨fun h => ne_of_get he hf h, fun h => ⟨inI_succ hlt hl1, k + 1, ⟨hlt, take_eq_succ he hf htk h⟩, by omega, by apply le_of <;> simp [AV.refs1, AV.ref0, Obj.refs1]⟩⟩
  · simp -dsimp -implicitDefEqProofs [lt_f hge]
    intro _
    exact eq_of_take hge hlen' htk
structure Turn where
  Up : Bool
  Count : Int
  deriving DecidableEq, Inhabited
@[simp] def Turn.enc (e : Turn) : List C := [.b e.Up, .i e.Count]
-- Turn
theorem toTurn_c (e : Turn) : PureF Tryz.prog n_laws_toTurn [.agg (e.enc.map .c)] (.agg (e.enc.map .c)) := by
  refine pure_of h_laws_toTurn (by simp) fun hwf => ?_
  simp -dsimp -implicitDefEqProofs [c_laws_toTurn]
theorem eqTurn_c (a b : Turn) : PureF Tryz.prog n_laws_eqTurn [.agg (a.enc.map .c), .agg (b.enc.map .c)] (.c (.b (decide (a = b)))) := by
  refine pure_of h_laws_eqTurn (by simp) fun hwf => ?_
  obtain ⟨a0, a1⟩ := a
  obtain ⟨b0, b1⟩ := b
  simp -dsimp -implicitDefEqProofs [c_laws_eqTurn, Turn.mk.injEq]
  refine ⟨fun h => by simp_all, fun h0 => ?_⟩
  refine ⟨fun h => by simp_all, fun h1 => ?_⟩
  simp_all
structure CallT where
  Train : Train
  Since : Int
  Booked : Int
  deriving DecidableEq, Inhabited
@[simp] def CallT.enc (e : CallT) : List C := [.b e.Train.Up, .sl 1 (e.Train.Rows.map enc_BoatS), .i e.Since, .i e.Booked]
-- Call
def sz_Call (e : CallT) (l : Int) : Int := andSz (sz_Train e.Train l) fun l => l
def CallT.small (e : CallT) : Prop := e.Train.small
theorem sz_Call_ok : SzOk sz_Call CallT.small := by
  intro e l h0 h1
  unfold sz_Call
  rcases sz_Train_ok e.Train _ h0 h1 with e0 | ⟨a0, b0, s0⟩
  · exact .inl (andSz_neg (by omega))
  rw [andSz_pos a0]
  exact .inr ⟨a0, by omega, s0⟩
theorem sz_Call_c (e : CallT) (l : Int) (h0 : 0 ≤ l) (h1 : l ≤ 1048576) : PureF Tryz.prog n_laws_szCall [.agg (e.enc.map .c), .c (.i l)] (.c (.i (sz_Call e l))) := by
  refine pure_of h_laws_szCall (by simp) fun hwf => ?_
  simp -dsimp -implicitDefEqProofs [c_laws_szCall]
  refine call_lend (sz_Train_c e.Train _ h0 h1) (by simp) rfl ?_
  simp -dsimp -implicitDefEqProofs
  refine ⟨fun h => by simp [sz_Call, andSz_neg h], fun p0 => ?_⟩
  simp [sz_Call, andSz_pos p0]
theorem toCall_c (e : CallT) (hl : CallT.small e) : PureF Tryz.prog n_laws_toCall [.agg (e.enc.map .c)] (.agg (e.enc.map .c)) := by
  refine pure_of h_laws_toCall (by simp) fun hwf => ?_
  simp -dsimp -implicitDefEqProofs [c_laws_toCall]
  first
    | refine call_pure (toTrain_c e.Train hl) (by simp) rfl ?_
    | refine ⟨_, _, toTrain_c e.Train hl, by simp, .inl rfl, ?_⟩
  simp -dsimp -implicitDefEqProofs
theorem eqCall_c (a b : CallT) : PureF Tryz.prog n_laws_eqCall [.agg (a.enc.map .c), .agg (b.enc.map .c)] (.c (.b (decide (a = b)))) := by
  refine pure_of h_laws_eqCall (by simp) fun hwf => ?_
  obtain ⟨a0, a1, a2⟩ := a
  obtain ⟨b0, b1, b2⟩ := b
  simp -dsimp -implicitDefEqProofs [c_laws_eqCall, CallT.mk.injEq]
  first
    | refine call_lend (eqTrain_c a0 b0) (by simp) rfl ?_
    | refine ⟨_, _, eqTrain_c a0 b0, by simp, .inr rfl, ?_⟩
  simp -dsimp -implicitDefEqProofs
  refine ⟨fun h => by simp_all, fun h0 => ?_⟩
  refine ⟨fun h => by simp_all, fun h1 => ?_⟩
  refine ⟨fun h => by simp_all, fun h2 => ?_⟩
  simp_all
-- []Call
def sz_CallS : List CallT → Int → Int := szSS sz_Call
def small_CallS : List CallT → Prop := smallS CallT.small
theorem sz_CallS_ok : SzOk sz_CallS small_CallS := szSS_ok sz_Call_ok
theorem sz_CallS_c (xs : List CallT) (l : Int) (h0 : 0 ≤ l) (h1 : l ≤ 1048576) : PureF Tryz.prog n_laws_szCallS [.c (.sl 4 (xs.map CallT.enc)), .c (.i l)] (.c (.i (sz_CallS xs l))) := by
  refine pure_of h_laws_szCallS (by simp) fun hwf => ?_
  simp -dsimp -implicitDefEqProofs [c_laws_szCallS]
  intro hl
  have hs : szS xs.length l = if l - xs.length < 0 then -1 else l - xs.length := rfl
  refine ⟨by unfold maxLen at hl; unfold inI; omega, fun h => ?_, fun h => ?_⟩
  · simp [sz_CallS, szSS, andSz, hs, h]
  have h' : 0 ≤ l - xs.length := by omega
  have e0 : sz_CallS xs l = foldSz sz_Call xs (l - xs.length) := by
    have : szS xs.length l = l - xs.length := by rw [hs, if_neg (by omega)]
    simp only [sz_CallS, szSS]
    rw [this, andSz_pos h']
  refine loop_rule (ι := Nat × Int) (fun p => p.1 ≤ xs.length ∧ 0 ≤ p.2 ∧ p.2 ≤ 1048576 ∧ foldSz sz_Call (xs.drop p.1) p.2 = sz_CallS xs l) (fun p => stOf [(0, .c (.sl 4 (xs.map CallT.enc))), (1, .c (.i p.2)), (5, .c (.i p.1))] []) (fun p => xs.length - p.1) (0, l - xs.length) ⟨by simp, h', by simp only; omega, by simp [e0]⟩ (by apply le_of <;> simp [AV.refs1, AV.ref0, Obj.refs1]) ?_
  rintro ⟨k, q⟩ ⟨hk, hq0, hq1, hf⟩
  simp only at hk hq0 hq1 hf
  rcases Nat.lt_or_ge k xs.length with hlt | hge
  · obtain ⟨e, he⟩ : ∃ e, xs[k]? = some e := ⟨_, List.getElem?_eq_getElem hlt⟩
    have hd : xs.drop k = e :: xs.drop (k + 1) := by
      rw [List.drop_eq_getElem_cons hlt, (List.getElem?_eq_some_iff.1 he).2]
    rw [hd, foldSz] at hf
    simp -dsimp -implicitDefEqProofs [he, lt_t hlt]
    refine fun _ => call_lend (sz_Call_c e q hq0 hq1) (by simp) rfl ?_
    simp -dsimp -implicitDefEqProofs
    refine ⟨fun h => by rw [← hf, andSz_neg h], fun h => ⟨inI_succ hlt hl, k + 1, ⟨sz_Call e q, ?_⟩⟩⟩
    rw [andSz_pos h] at hf
    have hle : sz_Call e q ≤ 1048576 := by
      rcases sz_Call_ok e q hq0 hq1 with e1 | e1
      · omega
      · omega
    exact ⟨⟨hlt, h, hle, hf⟩, by omega, by apply le_of <;> simp [AV.refs1, AV.ref0, Obj.refs1]⟩
  · simp -dsimp -implicitDefEqProofs [lt_f hge]
    rw [List.drop_of_length_le hge] at hf
    intro _
    first | simpa [foldSz] using hf | simpa [foldSz] using hf.symm
theorem toCallS_c (xs : List CallT) (hl : small_CallS xs) : PureF Tryz.prog n_laws_toCallS [.c (.sl 4 (xs.map CallT.enc))] (.c (.sl 4 (xs.map CallT.enc))) := by
  refine pure_of h_laws_toCallS (by simp) fun hwf => ?_
  simp -dsimp -implicitDefEqProofs [c_laws_toCallS]
  intro hlen
  have hl1 := hl.1
  refine ⟨by omega, ?_⟩
  refine loop_rule (ι := Nat) (fun k => k ≤ xs.length) (fun k => stOf [(0, .c (.sl 4 (xs.map CallT.enc))), (3, .own 7 4 xs.length), (4, .c (.i k))] [(7, .row 4 (partly CallT.enc [.b false, .sl 1 [], .i 0, .i 0] xs k))]) (fun k => xs.length - k) 0 (by simp) (by apply le_of <;> simp [AV.refs1, AV.ref0, Obj.refs1, partly_zero]) ?_
  rintro k hk
  rcases Nat.lt_or_ge k xs.length with hlt | hge
  · obtain ⟨e, he⟩ : ∃ e, xs[k]? = some e := ⟨_, List.getElem?_eq_getElem hlt⟩
    have hs := partly_set (f := CallT.enc) (z := [.b false, .sl 1 [], .i 0, .i 0]) he
    have hd := partly_drop (f := CallT.enc) (z := [.b false, .sl 1 [], .i 0, .i 0]) (n := 4) rfl hlt
    simp only [CallT.enc, Train.enc] at hs
    simp -dsimp -implicitDefEqProofs [he, lt_t hlt]
    refine fun _ => call_pure (toCall_c e (hl.2 e (List.mem_of_getElem? he))) (by simp) rfl ?_
    simp -dsimp -implicitDefEqProofs [lt_t hlt, partly_len hk, hd, hs]
    exact ⟨hlt, inI_succ hlt hlen, k + 1, hlt, by omega, by apply le_of <;> simp [AV.refs1, AV.ref0, Obj.refs1]⟩
  · simp -dsimp -implicitDefEqProofs [lt_f hge]
    intro _
    rw [partly_all hge, List.take_of_length_le (by simp)]
theorem eqCallS_c (es fs : List CallT) : PureF Tryz.prog n_laws_eqCallS [.c (.sl 4 (es.map CallT.enc)), .c (.sl 4 (fs.map CallT.enc))] (.c (.b (decide (es = fs)))) := by
  refine pure_of h_laws_eqCallS (by simp) fun hwf => ?_
  simp -dsimp -implicitDefEqProofs [c_laws_eqCallS]
  intro hl1 hl2
  refine ⟨fun h e => h (by rw [e]), fun hlen => ?_⟩
  have hlen' : es.length = fs.length := by omega
  refine loop_rule (ι := Nat) (fun k => k ≤ es.length ∧ es.take k = fs.take k) (fun k => stOf [(0, .c (.sl 4 (es.map CallT.enc))), (1, .c (.sl 4 (fs.map CallT.enc))), (5, .c (.i k))] []) (fun k => es.length - k) 0 (by simp) (by apply le_of <;> simp [AV.refs1, AV.ref0, Obj.refs1]) ?_
  rintro k ⟨hk, htk⟩
  rcases Nat.lt_or_ge k es.length with hlt | hge
  · obtain ⟨e, he⟩ : ∃ e, es[k]? = some e := ⟨_, List.getElem?_eq_getElem hlt⟩
    obtain ⟨f, hf⟩ : ∃ f, fs[k]? = some f := ⟨_, List.getElem?_eq_getElem (by omega)⟩
    simp -dsimp -implicitDefEqProofs [he, hf, lt_t hlt, lt_t (hlen' ▸ hlt)]
    intro _
    refine ⟨_, _, eqCall_c e f, by simp, .inr rfl, ?_⟩
    simp -dsimp -implicitDefEqProofs
    refine ⟨fun h => ne_of_get he hf h, fun h => ⟨inI_succ hlt hl1, k + 1, ⟨hlt, take_eq_succ he hf htk h⟩, by omega, by apply le_of <;> simp [AV.refs1, AV.ref0, Obj.refs1]⟩⟩
  · simp -dsimp -implicitDefEqProofs [lt_f hge]
    intro _
    exact eq_of_take hge hlen' htk
structure Work where
  Lock : Lock
  Weir : Weir
  Rule : Rule
  Pauses : List Pause
  Turn : Turn
  Calls : List CallT
  deriving DecidableEq, Inhabited
@[simp] def Work.enc (e : Work) : List C := [.i e.Lock.Length, .i e.Lock.Width, .i e.Lock.SillAbove, .i e.Lock.SillBelow, .i e.Lock.Base, .i e.Lock.Area, .i e.Lock.Rate, .i e.Lock.Water, .i e.Lock.Gate, .sl 2 (e.Lock.Inside.map Train.enc), .i e.Weir.Gates, .i e.Weir.Open, .i e.Weir.Step, .i e.Weir.Crest, .i e.Weir.Width, .i e.Rule.Low, .i e.Rule.High, .i e.Rule.Flood, .sl 2 (e.Pauses.map Pause.enc), .b e.Turn.Up, .i e.Turn.Count, .sl 4 (e.Calls.map CallT.enc)]
-- Work
def sz_Work (e : Work) (l : Int) : Int := andSz (sz_Lock e.Lock l) fun l => andSz (sz_PauseS e.Pauses l) fun l => andSz (sz_CallS e.Calls l) fun l => l
def Work.small (e : Work) : Prop := e.Lock.small ∧ small_PauseS e.Pauses ∧ small_CallS e.Calls
theorem sz_Work_ok : SzOk sz_Work Work.small := by
  intro e l h0 h1
  unfold sz_Work
  rcases sz_Lock_ok e.Lock _ h0 h1 with e0 | ⟨a0, b0, s0⟩
  · exact .inl (andSz_neg (by omega))
  rw [andSz_pos a0]
  rcases sz_PauseS_ok e.Pauses _ a0 (by omega) with e1 | ⟨a1, b1, s1⟩
  · exact .inl (andSz_neg (by omega))
  rw [andSz_pos a1]
  rcases sz_CallS_ok e.Calls _ a1 (by omega) with e2 | ⟨a2, b2, s2⟩
  · exact .inl (andSz_neg (by omega))
  rw [andSz_pos a2]
  exact .inr ⟨a2, by omega, s0, s1, s2⟩
theorem sz_Work_c (e : Work) (l : Int) (h0 : 0 ≤ l) (h1 : l ≤ 1048576) : PureF Tryz.prog n_laws_szWork [.agg (e.enc.map .c), .c (.i l)] (.c (.i (sz_Work e l))) := by
  refine pure_of h_laws_szWork (by simp) fun hwf => ?_
  simp -dsimp -implicitDefEqProofs [c_laws_szWork]
  refine call_lend (sz_Lock_c e.Lock _ h0 h1) (by simp) rfl ?_
  simp -dsimp -implicitDefEqProofs
  refine ⟨fun h => by simp [sz_Work, andSz_neg h], fun p0 => ?_⟩
  have q0 := sz_le sz_Lock_ok e.Lock h0 h1 p0
  refine call_lend (sz_PauseS_c e.Pauses _ p0 q0) (by simp) rfl ?_
  simp -dsimp -implicitDefEqProofs
  refine ⟨fun h => by simp [sz_Work, andSz_pos p0, andSz_neg h], fun p1 => ?_⟩
  have q1 := sz_le sz_PauseS_ok e.Pauses p0 q0 p1
  refine call_lend (sz_CallS_c e.Calls _ p1 q1) (by simp) rfl ?_
  simp -dsimp -implicitDefEqProofs
  refine ⟨fun h => by simp [sz_Work, andSz_pos p0, andSz_pos p1, andSz_neg h], fun p2 => ?_⟩
  simp [sz_Work, andSz_pos p0, andSz_pos p1, andSz_pos p2]
theorem toWork_c (e : Work) (hl : Work.small e) : PureF Tryz.prog n_laws_toWork [.agg (e.enc.map .c)] (.agg (e.enc.map .c)) := by
  refine pure_of h_laws_toWork (by simp) fun hwf => ?_
  simp -dsimp -implicitDefEqProofs [c_laws_toWork]
  first
    | refine call_pure (toLock_c e.Lock (hl.1)) (by simp) rfl ?_
    | refine ⟨_, _, toLock_c e.Lock (hl.1), by simp, .inl rfl, ?_⟩
  simp -dsimp -implicitDefEqProofs
  first
    | refine call_pure (toWeir_c e.Weir) (by simp) rfl ?_
    | refine ⟨_, _, toWeir_c e.Weir, by simp, .inl rfl, ?_⟩
  simp -dsimp -implicitDefEqProofs
  first
    | refine call_pure (toRule_c e.Rule) (by simp) rfl ?_
    | refine ⟨_, _, toRule_c e.Rule, by simp, .inl rfl, ?_⟩
  simp -dsimp -implicitDefEqProofs
  first
    | refine call_pure (toPauseS_c e.Pauses (hl.2.1)) (by simp) rfl ?_
    | refine ⟨_, _, toPauseS_c e.Pauses (hl.2.1), by simp, .inl rfl, ?_⟩
  simp -dsimp -implicitDefEqProofs
  first
    | refine call_pure (toTurn_c e.Turn) (by simp) rfl ?_
    | refine ⟨_, _, toTurn_c e.Turn, by simp, .inl rfl, ?_⟩
  simp -dsimp -implicitDefEqProofs
  first
    | refine call_pure (toCallS_c e.Calls (hl.2.2)) (by simp) rfl ?_
    | refine ⟨_, _, toCallS_c e.Calls (hl.2.2), by simp, .inl rfl, ?_⟩
  simp -dsimp -implicitDefEqProofs
theorem eqWork_c (a b : Work) : PureF Tryz.prog n_laws_eqWork [.agg (a.enc.map .c), .agg (b.enc.map .c)] (.c (.b (decide (a = b)))) := by
  refine pure_of h_laws_eqWork (by simp) fun hwf => ?_
  obtain ⟨a0, a1, a2, a3, a4, a5⟩ := a
  obtain ⟨b0, b1, b2, b3, b4, b5⟩ := b
  simp -dsimp -implicitDefEqProofs [c_laws_eqWork, Work.mk.injEq]
  first
    | refine call_lend (eqLock_c a0 b0) (by simp) rfl ?_
    | refine ⟨_, _, eqLock_c a0 b0, by simp, .inr rfl, ?_⟩
  simp -dsimp -implicitDefEqProofs
  refine ⟨fun h => by simp_all, fun h0 => ?_⟩
  first
    | refine call_lend (eqWeir_c a1 b1) (by simp) rfl ?_
    | refine ⟨_, _, eqWeir_c a1 b1, by simp, .inr rfl, ?_⟩
  simp -dsimp -implicitDefEqProofs
  refine ⟨fun h => by simp_all, fun h1 => ?_⟩
  first
    | refine call_lend (eqRule_c a2 b2) (by simp) rfl ?_
    | refine ⟨_, _, eqRule_c a2 b2, by simp, .inr rfl, ?_⟩
  simp -dsimp -implicitDefEqProofs
  refine ⟨fun h => by simp_all, fun h2 => ?_⟩
  first
    | refine call_lend (eqPauseS_c a3 b3) (by simp) rfl ?_
    | refine ⟨_, _, eqPauseS_c a3 b3, by simp, .inr rfl, ?_⟩
  simp -dsimp -implicitDefEqProofs
  refine ⟨fun h => by simp_all, fun h3 => ?_⟩
  first
    | refine call_lend (eqTurn_c a4 b4) (by simp) rfl ?_
    | refine ⟨_, _, eqTurn_c a4 b4, by simp, .inr rfl, ?_⟩
  simp -dsimp -implicitDefEqProofs
  refine ⟨fun h => by simp_all, fun h4 => ?_⟩
  first
    | refine call_lend (eqCallS_c a5 b5) (by simp) rfl ?_
    | refine ⟨_, _, eqCallS_c a5 b5, by simp, .inr rfl, ?_⟩
  simp -dsimp -implicitDefEqProofs
  refine ⟨fun h => by simp_all, fun h5 => ?_⟩
  simp_all

end Go.Proofs.YtpcopekamgapaaaGreat
