/- Contracts of functions of this seat: what each answers, as plain Lean. -/
import Derived.Test.YtpcopekamgapaaaGreatMT1
set_option linter.all false
namespace Go.Proofs.YtpcopekamgapaaaGreat
open Go.RowKit

def andSz (a : Int) (f : Int → Int) : Int := if a < 0 then -1 else f a
def foldSz {α : Type} (f : α → Int → Int) : List α → Int → Int
  | [], l => l
  | x :: xs, l => andSz (f x l) (foldSz f xs)
def szSS {α : Type} (f : α → Int → Int) (xs : List α) (l : Int) : Int := andSz (szS xs.length l) (foldSz f xs)
def SzOk {α : Type} (f : α → Int → Int) (sm : α → Prop) : Prop := ∀ x l, 0 ≤ l → l ≤ 1048576 → f x l = -1 ∨ (0 ≤ f x l ∧ f x l ≤ l ∧ sm x)
def smallS {α : Type} (sm : α → Prop) (xs : List α) : Prop := xs.length ≤ 1048576 ∧ ∀ x ∈ xs, sm x
theorem andSz_neg {a : Int} {f : Int → Int} (h : a < 0) : andSz a f = -1 := by simp [andSz, h]
theorem andSz_pos {a : Int} {f : Int → Int} (h : 0 ≤ a) : andSz a f = f a := by simp [andSz, Int.not_lt.2 h]
theorem szS_ok' {α : Type} : SzOk (fun (xs : List α) l => szS xs.length l) (smallS fun _ : α => True) := by
  intro xs l h0 h1
  simp only [szS]
  unfold smallS
  split
  · exact .inl rfl
  · exact .inr ⟨by omega, by omega, by omega, fun _ _ => trivial⟩
theorem sz_small {α : Type} {f : α → Int → Int} {sm : α → Prop} (h : SzOk f sm) {x : α} {l : Int} (h0 : 0 ≤ l) (h1 : l ≤ 1048576) (hp : 0 ≤ f x l) : sm x := by
  rcases h x l h0 h1 with e | ⟨_, _, e⟩
  · omega
  · exact e
theorem sz_le {α : Type} {f : α → Int → Int} {sm : α → Prop} (h : SzOk f sm) (x : α) {l : Int} (h0 : 0 ≤ l) (h1 : l ≤ 1048576) (hp : 0 ≤ f x l) : f x l ≤ 1048576 := by
  rcases h x l h0 h1 with e | ⟨_, e, _⟩
  · omega
  · omega
theorem foldSz_ok {α : Type} {f : α → Int → Int} {sm : α → Prop} (h : SzOk f sm) : ∀ (xs : List α) (l : Int), 0 ≤ l → l ≤ 1048576 → foldSz f xs l = -1 ∨ (0 ≤ foldSz f xs l ∧ foldSz f xs l ≤ l ∧ ∀ x ∈ xs, sm x)
  | [], l, h0, h1 => .inr ⟨h0, Int.le_refl _, by simp⟩
  | x :: xs, l, h0, h1 => by
    simp only [foldSz]
    rcases h x l h0 h1 with e | ⟨e1, e2, e3⟩
    · exact .inl (andSz_neg (by omega))
    · rw [andSz_pos e1]
      rcases foldSz_ok h xs (f x l) e1 (by omega) with e | ⟨e4, e5, e6⟩
      · exact .inl e
      · exact .inr ⟨e4, by omega, by simp; exact ⟨e3, e6⟩⟩
theorem szSS_ok {α : Type} {f : α → Int → Int} {sm : α → Prop} (h : SzOk f sm) : SzOk (szSS f) (smallS sm) := by
  intro xs l h0 h1
  unfold szSS
  rcases szS_ok' xs l h0 h1 with e | ⟨e1, e2, e3⟩
  · exact .inl (andSz_neg (by simp only at e; omega))
  · simp only at e1 e2
    rw [andSz_pos e1]
    rcases foldSz_ok h xs _ e1 (by omega) with e | ⟨e4, e5, e6⟩
    · exact .inl e
    · exact .inr ⟨e4, by omega, e3.1, e6⟩

structure Boat where
  Id : Int
  Length : Int
  Width : Int
  Draught : Int
  Speed : Int
  Class : Int
  deriving DecidableEq, Inhabited
@[simp] def Boat.enc (e : Boat) : List C := [.i e.Id, .i e.Length, .i e.Width, .i e.Draught, .i e.Speed, .i e.Class]
-- Boat
theorem toBoat_c (e : Boat) : PureF Tryz.prog n_laws_toBoat [.agg (e.enc.map .c)] (.agg (e.enc.map .c)) := by
  refine pure_of h_laws_toBoat (by simp) fun hwf => ?_
  simp -dsimp -implicitDefEqProofs [c_laws_toBoat]
theorem eqBoat_c (a b : Boat) : PureF Tryz.prog n_laws_eqBoat [.agg (a.enc.map .c), .agg (b.enc.map .c)] (.c (.b (decide (a = b)))) := by
  refine pure_of h_laws_eqBoat (by simp) fun hwf => ?_
  obtain ⟨a0, a1, a2, a3, a4, a5⟩ := a
  obtain ⟨b0, b1, b2, b3, b4, b5⟩ := b
  simp -dsimp -implicitDefEqProofs [c_laws_eqBoat, Boat.mk.injEq]
  refine ⟨fun h => by simp_all, fun h0 => ?_⟩
  refine ⟨fun h => by simp_all, fun h1 => ?_⟩
  refine ⟨fun h => by simp_all, fun h2 => ?_⟩
  refine ⟨fun h => by simp_all, fun h3 => ?_⟩
  refine ⟨fun h => by simp_all, fun h4 => ?_⟩
  refine ⟨fun h => by simp_all, fun h5 => ?_⟩
  simp_all
-- []Boat
def sz_BoatS (xs : List Boat) (l : Int) : Int := szS xs.length l
def small_BoatS : List Boat → Prop := smallS fun _ => True
theorem sz_BoatS_ok : SzOk sz_BoatS small_BoatS := szS_ok'
theorem sz_BoatS_c (xs : List Boat) (l : Int) (h0 : 0 ≤ l) (h1 : l ≤ 1048576) : PureF Tryz.prog n_laws_szBoatS [.c (.sl 6 (xs.map Boat.enc)), .c (.i l)] (.c (.i (sz_BoatS xs l))) := by
  refine pure_of h_laws_szBoatS (by simp) fun hwf => ?_
  simp -dsimp -implicitDefEqProofs [c_laws_szBoatS, sz_BoatS, szS]
  intro hl
  unfold maxLen at hl
  refine ⟨by unfold inI; omega, fun h => ?_, fun h => ?_⟩ <;> intros <;> omega
theorem toBoatS_c (xs : List Boat) (hl : small_BoatS xs) : PureF Tryz.prog n_laws_toBoatS [.c (.sl 6 (xs.map Boat.enc))] (.c (.sl 6 (xs.map Boat.enc))) := by
  refine pure_of h_laws_toBoatS (by simp) fun hwf => ?_
  simp -dsimp -implicitDefEqProofs [c_laws_toBoatS]
  intro hlen
  have hl1 := hl.1
  refine ⟨by omega, ?_⟩
  refine loop_rule (ι := Nat) (fun k => k ≤ xs.length) (fun k => stOf [(0, .c (.sl 6 (xs.map Boat.enc))), (3, .own 7 6 xs.length), (4, .c (.i k))] [(7, .row 6 (partly Boat.enc [.i 0, .i 0, .i 0, .i 0, .i 0, .i 0] xs k))]) (fun k => xs.length - k) 0 (by simp) (by apply le_of <;> simp [AV.refs1, AV.ref0, Obj.refs1, partly_zero]) ?_
  rintro k hk
  rcases Nat.lt_or_ge k xs.length with hlt | hge
  · obtain ⟨e, he⟩ : ∃ e, xs[k]? = some e := ⟨_, List.getElem?_eq_getElem hlt⟩
    have hs := partly_set (f := Boat.enc) (z := [.i 0, .i 0, .i 0, .i 0, .i 0, .i 0]) he
    have hd := partly_drop (f := Boat.enc) (z := [.i 0, .i 0, .i 0, .i 0, .i 0, .i 0]) (n := 6) rfl hlt
    simp only [Boat.enc] at hs
    simp -dsimp -implicitDefEqProofs [he, lt_t hlt]
    refine fun _ => call_pure (toBoat_c e ) (by simp) rfl ?_
    simp -dsimp -implicitDefEqProofs [lt_t hlt, partly_len hk, hd, hs]
    exact ⟨hlt, inI_succ hlt hlen, k + 1, hlt, by omega, by apply le_of <;> simp [AV.refs1, AV.ref0, Obj.refs1]⟩
  · simp -dsimp -implicitDefEqProofs [lt_f hge]
    intro _
    rw [partly_all hge, List.take_of_length_le (by simp)]
theorem eqBoatS_c (es fs : List Boat) : PureF Tryz.prog n_laws_eqBoatS [.c (.sl 6 (es.map Boat.enc)), .c (.sl 6 (fs.map Boat.enc))] (.c (.b (decide (es = fs)))) := by
  refine pure_of h_laws_eqBoatS (by simp) fun hwf => ?_
  simp -dsimp -implicitDefEqProofs [c_laws_eqBoatS]
  intro hl1 hl2
  refine ⟨fun h e => h (by rw [e]), fun hlen => ?_⟩
  have hlen' : es.length = fs.length := by omega
  refine loop_rule (ι := Nat) (fun k => k ≤ es.length ∧ es.take k = fs.take k) (fun k => stOf [(0, .c (.sl 6 (es.map Boat.enc))), (1, .c (.sl 6 (fs.map Boat.enc))), (5, .c (.i k))] []) (fun k => es.length - k) 0 (by simp) (by apply le_of <;> simp [AV.refs1, AV.ref0, Obj.refs1]) ?_
  rintro k ⟨hk, htk⟩
  rcases Nat.lt_or_ge k es.length with hlt | hge
  · obtain ⟨e, he⟩ : ∃ e, es[k]? = some e := ⟨_, List.getElem?_eq_getElem hlt⟩
    obtain ⟨f, hf⟩ : ∃ f, fs[k]? = some f := ⟨_, List.getElem?_eq_getElem (by omega)⟩
    simp -dsimp -implicitDefEqProofs [he, hf, lt_t hlt, lt_t (hlen' ▸ hlt)]
    intro _
    refine ⟨_, _, eqBoat_c e f, by simp, .inr rfl, ?_⟩
    simp -dsimp -implicitDefEqProofs
    refine ⟨fun h => ne_of_get he hf h, fun h => ⟨inI_succ hlt hl1, k + 1, ⟨hlt, take_eq_succ he hf htk h⟩, by omega, by apply le_of <;> simp [AV.refs1, AV.ref0, Obj.refs1]⟩⟩
  · simp -dsimp -implicitDefEqProofs [lt_f hge]
    intro _
    exact eq_of_take hge hlen' htk
abbrev enc_BoatS (xs : List Boat) : List C := [.sl 6 (xs.map Boat.enc)]
-- [][]Boat
def sz_BoatSS : List (List Boat) → Int → Int := szSS sz_BoatS
def small_BoatSS : List (List Boat) → Prop := smallS small_BoatS
theorem sz_BoatSS_ok : SzOk sz_BoatSS small_BoatSS := szSS_ok sz_BoatS_ok
theorem sz_BoatSS_c (xs : List (List Boat)) (l : Int) (h0 : 0 ≤ l) (h1 : l ≤ 1048576) : PureF Tryz.prog n_laws_szBoatSS [.c (.sl 1 (xs.map enc_BoatS)), .c (.i l)] (.c (.i (sz_BoatSS xs l))) := by
  refine pure_of h_laws_szBoatSS (by simp) fun hwf => ?_
  simp -dsimp -implicitDefEqProofs [c_laws_szBoatSS]
  intro hl
  have hs : szS xs.length l = if l - xs.length < 0 then -1 else l - xs.length := rfl
  refine ⟨by unfold maxLen at hl; unfold inI; omega, fun h => ?_, fun h => ?_⟩
  · simp [sz_BoatSS, szSS, andSz, hs, h]
  have h' : 0 ≤ l - xs.length := by omega
  have e0 : sz_BoatSS xs l = foldSz sz_BoatS xs (l - xs.length) := by
    have : szS xs.length l = l - xs.length := by rw [hs, if_neg (by omega)]
    simp only [sz_BoatSS, szSS]
    rw [this, andSz_pos h']
  refine loop_rule (ι := Nat × Int) (fun p => p.1 ≤ xs.length ∧ 0 ≤ p.2 ∧ p.2 ≤ 1048576 ∧ foldSz sz_BoatS (xs.drop p.1) p.2 = sz_BoatSS xs l) (fun p => stOf [(0, .c (.sl 1 (xs.map enc_BoatS))), (1, .c (.i p.2)), (5, .c (.i p.1))] []) (fun p => xs.length - p.1) (0, l - xs.length) ⟨by simp, h', by simp only; omega, by simp [e0]⟩ (by apply le_of <;> simp [AV.refs1, AV.ref0, Obj.refs1]) ?_
  rintro ⟨k, q⟩ ⟨hk, hq0, hq1, hf⟩
  simp only at hk hq0 hq1 hf
  rcases Nat.lt_or_ge k xs.length with hlt | hge
  · obtain ⟨e, he⟩ : ∃ e, xs[k]? = some e := ⟨_, List.getElem?_eq_getElem hlt⟩
    have hd : xs.drop k = e :: xs.drop (k + 1) := by
      rw [List.drop_eq_getElem_cons hlt, (List.getElem?_eq_some_iff.1 he).2]
    rw [hd, foldSz] at hf
    simp -dsimp -implicitDefEqProofs [he, lt_t hlt]
    refine fun _ => call_lend (sz_BoatS_c e q hq0 hq1) (by simp) rfl ?_
    simp -dsimp -implicitDefEqProofs
    refine ⟨fun h => by rw [← hf, andSz_neg h], fun h => ⟨inI_succ hlt hl, k + 1, ⟨sz_BoatS e q, ?_⟩⟩⟩
    rw [andSz_pos h] at hf
    have hle : sz_BoatS e q ≤ 1048576 := by
      rcases sz_BoatS_ok e q hq0 hq1 with e1 | e1
      · omega
      · omega
    exact ⟨⟨hlt, h, hle, hf⟩, by omega, by apply le_of <;> simp [AV.refs1, AV.ref0, Obj.refs1]⟩
  · simp -dsimp -implicitDefEqProofs [lt_f hge]
    rw [List.drop_of_length_le hge] at hf
    intro _
    first | simpa [foldSz] using hf | simpa [foldSz] using hf.symm
theorem toBoatSS_c (xs : List (List Boat)) (hl : small_BoatSS xs) : PureF Tryz.prog n_laws_toBoatSS [.c (.sl 1 (xs.map enc_BoatS))] (.c (.sl 1 (xs.map enc_BoatS))) := by
  refine pure_of h_laws_toBoatSS (by simp) fun hwf => ?_
  simp -dsimp -implicitDefEqProofs [c_laws_toBoatSS]
  intro hlen
  have hl1 := hl.1
  refine ⟨by omega, ?_⟩
  refine loop_rule (ι := Nat) (fun k => k ≤ xs.length) (fun k => stOf [(0, .c (.sl 1 (xs.map enc_BoatS))), (3, .own 7 1 xs.length), (4, .c (.i k))] [(7, .row 1 (partly enc_BoatS [.sl 6 []] xs k))]) (fun k => xs.length - k) 0 (by simp) (by apply le_of <;> simp [AV.refs1, AV.ref0, Obj.refs1, partly_zero]) ?_
  rintro k hk
  rcases Nat.lt_or_ge k xs.length with hlt | hge
  · obtain ⟨e, he⟩ : ∃ e, xs[k]? = some e := ⟨_, List.getElem?_eq_getElem hlt⟩
    have hs := partly_set (f := enc_BoatS) (z := [.sl 6 []]) he
    have hd : ((partly enc_BoatS [.sl 6 []] xs k)[k]?.getD []).set 0 (.sl 6 (e.map Boat.enc)) = [.sl 6 (e.map Boat.enc)] := by
      have := partly_get (f := enc_BoatS) (z := [.sl 6 []]) (n := 1) rfl (fun _ => rfl) hlt
      obtain ⟨x, hx⟩ := List.length_eq_one_iff.1 this
      rw [hx]; rfl
    have hs2 : (partly enc_BoatS [.sl 6 []] xs k).set k [.sl 6 (e.map Boat.enc)] = partly enc_BoatS [.sl 6 []] xs (k + 1) := hs
    simp -dsimp -implicitDefEqProofs [he, lt_t hlt]
    first
      | refine fun _ => call_pure (toBoatS_c e (hl.2 e (List.mem_of_getElem? he))) (by simp) rfl ?_
      | refine fun _ => ⟨_, _, toBoatS_c e (hl.2 e (List.mem_of_getElem? he)), by simp, .inl rfl, ?_⟩
    simp -dsimp -implicitDefEqProofs [lt_t hlt, partly_len hk, hd, hs2]
    exact ⟨hlt, inI_succ hlt hlen, k + 1, hlt, by omega, by apply le_of <;> simp [AV.refs1, AV.ref0, Obj.refs1]⟩
  · simp -dsimp -implicitDefEqProofs [lt_f hge]
    intro _
    rw [partly_all hge, List.take_of_length_le (by simp)]
theorem eqBoatSS_c (es fs : List (List Boat)) : PureF Tryz.prog n_laws_eqBoatSS [.c (.sl 1 (es.map enc_BoatS)), .c (.sl 1 (fs.map enc_BoatS))] (.c (.b (decide (es = fs)))) := by
  refine pure_of h_laws_eqBoatSS (by simp) fun hwf => ?_
  simp -dsimp -implicitDefEqProofs [c_laws_eqBoatSS]
  intro hl1 hl2
  refine ⟨fun h e => h (by rw [e]), fun hlen => ?_⟩
  have hlen' : es.length = fs.length := by omega
  refine loop_rule (ι := Nat) (fun k => k ≤ es.length ∧ es.take k = fs.take k) (fun k => stOf [(0, .c (.sl 1 (es.map enc_BoatS))), (1, .c (.sl 1 (fs.map enc_BoatS))), (5, .c (.i k))] []) (fun k => es.length - k) 0 (by simp) (by apply le_of <;> simp [AV.refs1, AV.ref0, Obj.refs1]) ?_
  rintro k ⟨hk, htk⟩
  rcases Nat.lt_or_ge k es.length with hlt | hge
  · obtain ⟨e, he⟩ : ∃ e, es[k]? = some e := ⟨_, List.getElem?_eq_getElem hlt⟩
    obtain ⟨f, hf⟩ : ∃ f, fs[k]? = some f := ⟨_, List.getElem?_eq_getElem (by omega)⟩
    simp -dsimp -implicitDefEqProofs [he, hf, lt_t hlt, lt_t (hlen' ▸ hlt)]
    intro _
    refine ⟨_, _, eqBoatS_c e f, by simp, .inr rfl, ?_⟩
    simp -dsimp -implicitDefEqProofs
    refine ⟨fun h => ne_of_get he hf h, fun h => ⟨inI_succ hlt hl1, k + 1, ⟨hlt, take_eq_succ he hf htk h⟩, by omega, by apply le_of <;> simp [AV.refs1, AV.ref0, Obj.refs1]⟩⟩
  · simp -dsimp -implicitDefEqProofs [lt_f hge]
    intro _
    exact eq_of_take hge hlen' htk
structure Train where
  Up : Bool
  Rows : List (List Boat)
  deriving DecidableEq, Inhabited
@[simp] def Train.enc (e : Train) : List C := [.b e.Up, .sl 1 (e.Rows.map enc_BoatS)]
-- Train
def sz_Train (e : Train) (l : Int) : Int := andSz (sz_BoatSS e.Rows l) fun l => l
def Train.small (e : Train) : Prop := small_BoatSS e.Rows
theorem sz_Train_ok : SzOk sz_Train Train.small := by
  intro e l h0 h1
  unfold sz_Train
  rcases sz_BoatSS_ok e.Rows _ h0 h1 with e0 | ⟨a0, b0, s0⟩
  · exact .inl (andSz_neg (by omega))
  rw [andSz_pos a0]
  exact .inr ⟨a0, by omega, s0⟩
theorem sz_Train_c (e : Train) (l : Int) (h0 : 0 ≤ l) (h1 : l ≤ 1048576) : PureF Tryz.prog n_laws_szTrain [.agg (e.enc.map .c), .c (.i l)] (.c (.i (sz_Train e l))) := by
  refine pure_of h_laws_szTrain (by simp) fun hwf => ?_
  simp -dsimp -implicitDefEqProofs [c_laws_szTrain]
  refine call_lend (sz_BoatSS_c e.Rows _ h0 h1) (by simp) rfl ?_
  simp -dsimp -implicitDefEqProofs
  refine ⟨fun h => by simp [sz_Train, andSz_neg h], fun p0 => ?_⟩
  simp [sz_Train, andSz_pos p0]
theorem toTrain_c (e : Train) (hl : Train.small e) : PureF Tryz.prog n_laws_toTrain [.agg (e.enc.map .c)] (.agg (e.enc.map .c)) := by
  refine pure_of h_laws_toTrain (by simp) fun hwf => ?_
  simp -dsimp -implicitDefEqProofs [c_laws_toTrain]
  first
    | refine call_pure (toBoatSS_c e.Rows hl) (by simp) rfl ?_
    | refine ⟨_, _, toBoatSS_c e.Rows hl, by simp, .inl rfl, ?_⟩
  simp -dsimp -implicitDefEqProofs
theorem eqTrain_c (a b : Train) : PureF Tryz.prog n_laws_eqTrain [.agg (a.enc.map .c), .agg (b.enc.map .c)] (.c (.b (decide (a = b)))) := by
  refine pure_of h_laws_eqTrain (by simp) fun hwf => ?_
  obtain ⟨a0, a1⟩ := a
  obtain ⟨b0, b1⟩ := b
  simp -dsimp -implicitDefEqProofs [c_laws_eqTrain, Train.mk.injEq]
  refine ⟨fun h => by simp_all, fun h0 => ?_⟩
  first
    | refine call_lend (eqBoatSS_c a1 b1) (by simp) rfl ?_
    | refine ⟨_, _, eqBoatSS_c a1 b1, by simp, .inr rfl, ?_⟩
  simp -dsimp -implicitDefEqProofs
  refine ⟨fun h => by simp_all, fun h1 => ?_⟩
  simp_all
structure Mover where
  Train : Train
  Place : Int
  deriving DecidableEq, Inhabited
@[simp] def Mover.enc (e : Mover) : List C := [.b e.Train.Up, .sl 1 (e.Train.Rows.map enc_BoatS), .i e.Place]
-- Mover
def sz_Mover (e : Mover) (l : Int) : Int := andSz (sz_Train e.Train l) fun l => l
def Mover.small (e : Mover) : Prop := e.Train.small
theorem sz_Mover_ok : SzOk sz_Mover Mover.small := by
  intro e l h0 h1
  unfold sz_Mover
  rcases sz_Train_ok e.Train _ h0 h1 with e0 | ⟨a0, b0, s0⟩
  · exact .inl (andSz_neg (by omega))
  rw [andSz_pos a0]
  exact .inr ⟨a0, by omega, s0⟩
theorem sz_Mover_c (e : Mover) (l : Int) (h0 : 0 ≤ l) (h1 : l ≤ 1048576) : PureF Tryz.prog n_laws_szMover [.agg (e.enc.map .c), .c (.i l)] (.c (.i (sz_Mover e l))) := by
  refine pure_of h_laws_szMover (by simp) fun hwf => ?_
  simp -dsimp -implicitDefEqProofs [c_laws_szMover]
  refine call_lend (sz_Train_c e.Train _ h0 h1) (by simp) rfl ?_
  simp -dsimp -implicitDefEqProofs
  refine ⟨fun h => by simp [sz_Mover, andSz_neg h], fun p0 => ?_⟩
  simp [sz_Mover, andSz_pos p0]
theorem toMover_c (e : Mover) (hl : Mover.small e) : PureF Tryz.prog n_laws_toMover [.agg (e.enc.map .c)] (.agg (e.enc.map .c)) := by
  refine pure_of h_laws_toMover (by simp) fun hwf => ?_
  simp -dsimp -implicitDefEqProofs [c_laws_toMover]
  first
    | refine call_pure (toTrain_c e.Train hl) (by simp) rfl ?_
    | refine ⟨_, _, toTrain_c e.Train hl, by simp, .inl rfl, ?_⟩
  simp -dsimp -implicitDefEqProofs
theorem eqMover_c (a b : Mover) : PureF Tryz.prog n_laws_eqMover [.agg (a.enc.map .c), .agg (b.enc.map .c)] (.c (.b (decide (a = b)))) := by
  refine pure_of h_laws_eqMover (by simp) fun hwf => ?_
  obtain ⟨a0, a1⟩ := a
  obtain ⟨b0, b1⟩ := b
  simp -dsimp -implicitDefEqProofs [c_laws_eqMover, Mover.mk.injEq]
  first
    | refine call_lend (eqTrain_c a0 b0) (by simp) rfl ?_
    | refine ⟨_, _, eqTrain_c a0 b0, by simp, .inr rfl, ?_⟩
  simp -dsimp -implicitDefEqProofs
  refine ⟨fun h => by simp_all, fun h0 => ?_⟩
  refine ⟨fun h => by simp_all, fun h1 => ?_⟩
  simp_all


end Go.Proofs.YtpcopekamgapaaaGreat
