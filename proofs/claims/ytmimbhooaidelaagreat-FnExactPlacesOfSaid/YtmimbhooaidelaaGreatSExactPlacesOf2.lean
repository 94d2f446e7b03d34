/- What the law FnExactPlacesOf stands on, part 2: contracts of functions, what each answers as plain Lean. -/
import Derived.Test.YtmimbhooaidelaaGreatSExactPlacesOf1
set_option linter.all false
namespace Go.Proofs.YtmimbhooaidelaaGreat
open Go.RowKit

theorem markIntS_c (xs : List Int) (k : Int) (h0 : 0 ≤ k) (h1 : k + xs.length ≤ 8000000000000000000) :
    InF Tryz.prog n_laws_markIntS (.c (cw 1 (xs.map ienc))) (.c (cw 1 (marked ienc 1 [] k xs.length))) [.c (.i k)] (.c (.i (k + xs.length))) := by
  rcases Nat.eq_zero_or_pos xs.length with hx | hx
  · have : xs = [] := List.length_eq_zero_iff.1 hx
    subst this
    refine in_of h_laws_markIntS (by simp) (by simp) rfl fun hwf => ?_
    simp -dsimp -implicitDefEqProofs [c_laws_markIntS, marked]
    refine loop_rule (ι := Unit) (fun _ => True) (fun _ => stOf [(0, .c (.sl 1 [])), (1, .c (.i k)), (5, .c (.i 0)), (1000000, .c (.sl 1 []))] []) (fun _ => 0) () trivial (by apply le_of <;> simp [AV.refs1, AV.ref0, Obj.refs1]) ?_
    rintro _ _
    simp -dsimp -implicitDefEqProofs
  · rw [cw_pos (by simpa using hx), cw_pos (by rw [marked_n]; exact hx)]
    refine in_of h_laws_markIntS (by simp) (by simp) rfl fun hwf => ?_
    simp -dsimp -implicitDefEqProofs [c_laws_markIntS]
    refine loop_rule (ι := Nat) (fun i => i ≤ xs.length) (fun i => stOf [(0, .own 0 1 xs.length), (1, .c (.i (k + i))), (5, .c (.i i)), (1000000, .own 0 1 xs.length)] [(0, .row 1 (marked ienc 1 (xs.map ienc) k i))]) (fun i => xs.length - i) 0 (by simp) (by apply le_of <;> simp [AV.refs1, AV.ref0, Obj.refs1, marked_zero]) ?_
    rintro i hi
    rcases Nat.lt_or_ge i xs.length with hlt | hge
    · obtain ⟨e, he⟩ : ∃ e, xs[i]? = some e := ⟨_, List.getElem?_eq_getElem hlt⟩
      have hg := marked_get (mk := ienc) (c := 1) (k := k) (rows := xs.map ienc) (i := i) (r := [.i e]) (by simp [he])
      have hl := marked_len (mk := ienc) (c := 1) (k := k) (rows := xs.map ienc) (i := i) (by simpa using hi)
      have hs := marked_set (mk := ienc) (c := 1) (k := k) (rows := xs.map ienc) (i := i) (by simpa using hlt)
      rw [List.length_map] at hl
      simp only [Int.one_mul, ienc] at hs
      simp -dsimp -implicitDefEqProofs [lt_t hlt, hg, hl]
      intro hlen
      refine ⟨hlt, by unfold inI; omega, by unfold inI; omega, i + 1, hlt, by omega, ?_⟩
      apply le_of <;> simp [AV.refs1, AV.ref0, Obj.refs1, hs] <;> omega
    · have : i = xs.length := by omega
      subst this
      simp -dsimp -implicitDefEqProofs
      intro _
      have e := marked_all (mk := ienc) (c := 1) (rows := xs.map ienc) (k := k) (i := xs.length) (by simp)
      rw [e, List.length_map, List.take_of_length_le (by rw [marked_n]; exact Nat.le_refl _)]
theorem heldIntS_c (n : Nat) (k : Int) (h0 : 0 ≤ k) (h1 : k + n ≤ 8000000000000000000) : PureF Tryz.prog n_laws_heldIntS [.c (.sl 1 (marked ienc 1 [] k n)), .c (.i k)] (.c (.i (k + n))) := by
  refine pure_of h_laws_heldIntS (by simp) fun hwf => ?_
  simp -dsimp -implicitDefEqProofs [c_laws_heldIntS]
  refine loop_rule (ι := Nat) (fun i => i ≤ n) (fun i => stOf [(0, .c (.sl 1 (marked ienc 1 [] k n))), (1, .c (.i (k + i))), (5, .c (.i i))] []) (fun i => n - i) 0 (by simp) (by apply le_of <;> simp [AV.refs1, AV.ref0, Obj.refs1]) ?_
  rintro i hi
  rcases Nat.lt_or_ge i n with hlt | hge
  · have hg := marked_at (mk := ienc) (c := 1) (k := k) hlt
    simp only [Int.one_mul] at hg
    simp -dsimp -implicitDefEqProofs [marked_n, lt_t hlt, hg]
    intro hlen
    refine ⟨by unfold inI; omega, by unfold inI; omega, i + 1, hlt, by omega, ?_⟩
    apply le_of <;> simp [AV.refs1, AV.ref0, Obj.refs1] <;> omega
  · have : i = n := by omega
    subst this
    simp -dsimp -implicitDefEqProofs [marked_n]
def andSz (a : Int) (f : Int → Int) : Int := if a < 0 then -1 else f a
def foldSz {α : Type} (f : α → Int → Int) : List α → Int → Int
  | [], l => l
  | x :: xs, l => andSz (f x l) (foldSz f xs)
def szSS {α : Type} (f : α → Int → Int) (xs : List α) (l : Int) : Int := andSz (szS xs.length l) (foldSz f xs)
def SzOk {α : Type} (f : α → Int → Int) (sm : α → Prop) : Prop := ∀ x l, 0 ≤ l → l ≤ 1048576 → f x l = -1 ∨ (0 ≤ f x l ∧ f x l ≤ l ∧ sm x)
def smallS {α : Type} (sm : α → Prop) (xs : List α) : Prop := xs.length ≤ 1048576 ∧ ∀ x ∈ xs, sm x
theorem andSz_neg {a : Int} {f : Int → Int} (h : a < 0) : andSz a f = -1 := by simp [andSz, h]
theorem andSz_pos {a : Int} {f : Int → Int} (h : 0 ≤ a) : andSz a f = f a := by simp [andSz, Int.not_lt.2 h]
theorem szS_ok' {α : Type} : SzOk (fun (xs : List α) l => szS xs.length l) (smallS fun _ : α => True) := by
  intro xs l h0 h1
  simp only [szS]
  unfold smallS
  split
  · exact .inl rfl
  · exact .inr ⟨by omega, by omega, by omega, fun _ _ => trivial⟩
theorem sz_small {α : Type} {f : α → Int → Int} {sm : α → Prop} (h : SzOk f sm) {x : α} {l : Int} (h0 : 0 ≤ l) (h1 : l ≤ 1048576) (hp : 0 ≤ f x l) : sm x := by
  rcases h x l h0 h1 with e | ⟨_, _, e⟩
  · omega
  · exact e
theorem sz_le {α : Type} {f : α → Int → Int} {sm : α → Prop} (h : SzOk f sm) (x : α) {l : Int} (h0 : 0 ≤ l) (h1 : l ≤ 1048576) (hp : 0 ≤ f x l) : f x l ≤ 1048576 := by
  rcases h x l h0 h1 with e | ⟨_, e, _⟩
  · omega
  · omega
theorem foldSz_ok {α : Type} {f : α → Int → Int} {sm : α → Prop} (h : SzOk f sm) : ∀ (xs : List α) (l : Int), 0 ≤ l → l ≤ 1048576 → foldSz f xs l = -1 ∨ (0 ≤ foldSz f xs l ∧ foldSz f xs l ≤ l ∧ ∀ x ∈ xs, sm x)
  | [], l, h0, h1 => .inr ⟨h0, Int.le_refl _, by simp⟩
  | x :: xs, l, h0, h1 => by
    simp only [foldSz]
    rcases h x l h0 h1 with e | ⟨e1, e2, e3⟩
    · exact .inl (andSz_neg (by omega))
    · rw [andSz_pos e1]
      rcases foldSz_ok h xs (f x l) e1 (by omega) with e | ⟨e4, e5, e6⟩
      · exact .inl e
      · exact .inr ⟨e4, by omega, by simp; exact ⟨e3, e6⟩⟩
theorem szSS_ok {α : Type} {f : α → Int → Int} {sm : α → Prop} (h : SzOk f sm) : SzOk (szSS f) (smallS sm) := by
  intro xs l h0 h1
  unfold szSS
  rcases szS_ok' xs l h0 h1 with e | ⟨e1, e2, e3⟩
  · exact .inl (andSz_neg (by simp only at e; omega))
  · simp only at e1 e2
    rw [andSz_pos e1]
    rcases foldSz_ok h xs _ e1 (by omega) with e | ⟨e4, e5, e6⟩
    · exact .inl e
    · exact .inr ⟨e4, by omega, e3.1, e6⟩
structure Boat where
  Id : Int
  Length : Int
  Width : Int
  Draught : Int
  Speed : Int
  Class : Int
  deriving DecidableEq, Inhabited
@[simp] def Boat.enc (e : Boat) : List C := [.i e.Id, .i e.Length, .i e.Width, .i e.Draught, .i e.Speed, .i e.Class]
-- Boat
theorem toBoat_c (e : Boat) : PureF Tryz.prog n_laws_toBoat [.agg (e.enc.map .c)] (.agg (e.enc.map .c)) := by
  refine pure_of h_laws_toBoat (by simp) fun hwf => ?_
  simp -dsimp -implicitDefEqProofs [c_laws_toBoat]
theorem eqBoat_c (a b : Boat) : PureF Tryz.prog n_laws_eqBoat [.agg (a.enc.map .c), .agg (b.enc.map .c)] (.c (.b (decide (a = b)))) := by
  refine pure_of h_laws_eqBoat (by simp) fun hwf => ?_
  obtain ⟨a0, a1, a2, a3, a4, a5⟩ := a
  obtain ⟨b0, b1, b2, b3, b4, b5⟩ := b
  simp -dsimp -implicitDefEqProofs [c_laws_eqBoat, Boat.mk.injEq]
  refine ⟨fun h => by simp_all, fun h0 => ?_⟩
  refine ⟨fun h => by simp_all, fun h1 => ?_⟩
  refine ⟨fun h => by simp_all, fun h2 => ?_⟩
  refine ⟨fun h => by simp_all, fun h3 => ?_⟩
  refine ⟨fun h => by simp_all, fun h4 => ?_⟩
  refine ⟨fun h => by simp_all, fun h5 => ?_⟩
  simp_all
-- []Boat
def sz_BoatS (xs : List Boat) (l : Int) : Int := szS xs.length l
def small_BoatS : List Boat → Prop := smallS fun _ => True
theorem sz_BoatS_ok : SzOk sz_BoatS small_BoatS := szS_ok'
theorem sz_BoatS_c (xs : List Boat) (l : Int) (h0 : 0 ≤ l) (h1 : l ≤ 1048576) : PureF Tryz.prog n_laws_szBoatS [.c (.sl 6 (xs.map Boat.enc)), .c (.i l)] (.c (.i (sz_BoatS xs l))) := by
  refine pure_of h_laws_szBoatS (by simp) fun hwf => ?_
  simp -dsimp -implicitDefEqProofs [c_laws_szBoatS, sz_BoatS, szS]
  intro hl
  unfold maxLen at hl
  refine ⟨by unfold inI; omega, fun h => ?_, fun h => ?_⟩ <;> intros <;> omega
theorem toBoatS_c (xs : List Boat) (hl : small_BoatS xs) : PureF Tryz.prog n_laws_toBoatS [.c (.sl 6 (xs.map Boat.enc))] (.c (.sl 6 (xs.map Boat.enc))) := by
  refine pure_of h_laws_toBoatS (by simp) fun hwf => ?_
  simp -dsimp -implicitDefEqProofs [c_laws_toBoatS]
  intro hlen
  have hl1 := hl.1
  refine ⟨by omega, ?_⟩
  refine loop_rule (ι := Nat) (fun k => k ≤ xs.length) (fun k => stOf [(0, .c (.sl 6 (xs.map Boat.enc))), (3, .own 7 6 xs.length), (4, .c (.i k))] [(7, .row 6 (partly Boat.enc [.i 0, .i 0, .i 0, .i 0, .i 0, .i 0] xs k))]) (fun k => xs.length - k) 0 (by simp) (by apply le_of <;> simp [AV.refs1, AV.ref0, Obj.refs1, partly_zero]) ?_
  rintro k hk
  rcases Nat.lt_or_ge k xs.length with hlt | hge
  · obtain ⟨e, he⟩ : ∃ e, xs[k]? = some e := ⟨_, List.getElem?_eq_getElem hlt⟩
    have hs := partly_set (f := Boat.enc) (z := [.i 0, .i 0, .i 0, .i 0, .i 0, .i 0]) he
    have hd := partly_drop (f := Boat.enc) (z := [.i 0, .i 0, .i 0, .i 0, .i 0, .i 0]) (n := 6) rfl hlt
    simp only [Boat.enc] at hs
    simp -dsimp -implicitDefEqProofs [he, lt_t hlt]
    refine fun _ => call_pure (toBoat_c e ) (by simp) rfl ?_
    simp -dsimp -implicitDefEqProofs [lt_t hlt, partly_len hk, hd, hs]
    exact ⟨hlt, inI_succ hlt hlen, k + 1, hlt, by omega, by apply le_of <;> simp [AV.refs1, AV.ref0, Obj.refs1]⟩
  · simp -dsimp -implicitDefEqProofs [lt_f hge]
    intro _
    rw [partly_all hge, List.take_of_length_le (by simp)]
theorem eqBoatS_c (es fs : List Boat) : PureF Tryz.prog n_laws_eqBoatS [.c (.sl 6 (es.map Boat.enc)), .c (.sl 6 (fs.map Boat.enc))] (.c (.b (decide (es = fs)))) := by
  refine pure_of h_laws_eqBoatS (by simp) fun hwf => ?_
  simp -dsimp -implicitDefEqProofs [c_laws_eqBoatS]
  intro hl1 hl2
  refine ⟨fun h e => h (by rw [e]), fun hlen => ?_⟩
  have hlen' : es.length = fs.length := by omega
  refine loop_rule (ι := Nat) (fun k => k ≤ es.length ∧ es.take k = fs.take k) (fun k => stOf [(0, .c (.sl 6 (es.map Boat.enc))), (1, .c (.sl 6 (fs.map Boat.enc))), (5, .c (.i k))] []) (fun k => es.length - k) 0 (by simp) (by apply le_of <;> simp [AV.refs1, AV.ref0, Obj.refs1]) ?_
  rintro k ⟨hk, htk⟩
  rcases Nat.lt_or_ge k es.length with hlt | hge
  · obtain ⟨e, he⟩ : ∃ e, es[k]? = some e := ⟨_, List.getElem?_eq_getElem hlt⟩
    obtain ⟨f, hf⟩ : ∃ f, fs[k]? = some f := ⟨_, List.getElem?_eq_getElem (by omega)⟩
    simp -dsimp -implicitDefEqProofs [he, hf, lt_t hlt, lt_t (hlen' ▸ hlt)]
    intro _
    refine ⟨_, _, eqBoat_c e f, by simp, .inr rfl, ?_⟩
    simp -dsimp -implicitDefEqProofs
    refine ⟨fun h => ne_of_get he hf h, fun h => ⟨inI_succ hlt hl1, k + 1, ⟨hlt, take_eq_succ he hf htk h⟩, by omega, by apply le_of <;> simp [AV.refs1, AV.ref0, Obj.refs1]⟩⟩
  · simp -dsimp -implicitDefEqProofs [lt_f hge]
    intro _
    exact eq_of_take hge hlen' htk
abbrev enc_BoatS (xs : List Boat) : List C := [.sl 6 (xs.map Boat.enc)]
-- [][]Boat
def sz_BoatSS : List (List Boat) → Int → Int := szSS sz_BoatS
def small_BoatSS : List (List Boat) → Prop := smallS small_BoatS
theorem sz_BoatSS_ok : SzOk sz_BoatSS small_BoatSS := szSS_ok sz_BoatS_ok
theorem sz_BoatSS_c (xs : List (List Boat)) (l : Int) (h0 : 0 ≤ l) (h1 : l ≤ 1048576) : PureF Tryz.prog n_laws_szBoatSS [.c (.sl 1 (xs.map enc_BoatS)), .c (.i l)] (.c (.i (sz_BoatSS xs l))) := by
  refine pure_of h_laws_szBoatSS (by simp) fun hwf => ?_
  simp -dsimp -implicitDefEqProofs [c_laws_szBoatSS]
  intro hl
  have hs : szS xs.length l = if l - xs.length < 0 then -1 else l - xs.length := rfl
  refine ⟨by unfold maxLen at hl; unfold inI; omega, fun h => ?_, fun h => ?_⟩
  · simp [sz_BoatSS, szSS, andSz, hs, h]
  have h' : 0 ≤ l - xs.length := by omega
  have e0 : sz_BoatSS xs l = foldSz sz_BoatS xs (l - xs.length) := by
    have : szS xs.length l = l - xs.length := by rw [hs, if_neg (by omega)]
    simp only [sz_BoatSS, szSS]
    rw [this, andSz_pos h']
  refine loop_rule (ι := Nat × Int) (fun p => p.1 ≤ xs.length ∧ 0 ≤ p.2 ∧ p.2 ≤ 1048576 ∧ foldSz sz_BoatS (xs.drop p.1) p.2 = sz_BoatSS xs l) (fun p => stOf [(0, .c (.sl 1 (xs.map enc_BoatS))), (1, .c (.i p.2)), (5, .c (.i p.1))] []) (fun p => xs.length - p.1) (0, l - xs.length) ⟨by simp, h', by simp only; omega, by simp [e0]⟩ (by apply le_of <;> simp [AV.refs1, AV.ref0, Obj.refs1]) ?_
  rintro ⟨k, q⟩ ⟨hk, hq0, hq1, hf⟩
  simp only at hk hq0 hq1 hf
  rcases Nat.lt_or_ge k xs.length with hlt | hge
  · obtain ⟨e, he⟩ : ∃ e, xs[k]? = some e := ⟨_, List.getElem?_eq_getElem hlt⟩
    have hd : xs.drop k = e :: xs.drop (k + 1) := by
      rw [List.drop_eq_getElem_cons hlt, (List.getElem?_eq_some_iff.1 he).2]
    rw [hd, foldSz] at hf
    simp -dsimp -implicitDefEqProofs [he, lt_t hlt]
    refine fun _ => call_lend (sz_BoatS_c e q hq0 hq1) (by simp) rfl ?_
    simp -dsimp -implicitDefEqProofs
    refine ⟨fun h => by rw [← hf, andSz_neg h], fun h => ⟨inI_succ hlt hl, k + 1, ⟨sz_BoatS e q, ?_⟩⟩⟩
    rw [andSz_pos h] at hf
    have hle : sz_BoatS e q ≤ 1048576 := by
      rcases sz_BoatS_ok e q hq0 hq1 with e1 | e1
      · omega
      · omega
    exact ⟨⟨hlt, h, hle, hf⟩, by omega, by apply le_of <;> simp [AV.refs1, AV.ref0, Obj.refs1]⟩
  · simp -dsimp -implicitDefEqProofs [lt_f hge]
    rw [List.drop_of_length_le hge] at hf
    intro _
    first | simpa [foldSz] using hf | simpa [foldSz] using hf.symm
theorem toBoatSS_c (xs : List (List Boat)) (hl : small_BoatSS xs) : PureF Tryz.prog n_laws_toBoatSS [.c (.sl 1 (xs.map enc_BoatS))] (.c (.sl 1 (xs.map enc_BoatS))) := by
  refine pure_of h_laws_toBoatSS (by simp) fun hwf => ?_
  simp -dsimp -implicitDefEqProofs [c_laws_toBoatSS]
  intro hlen
  have hl1 := hl.1
  refine ⟨by omega, ?_⟩
  refine loop_rule (ι := Nat) (fun k => k ≤ xs.length) (fun k => stOf [(0, .c (.sl 1 (xs.map enc_BoatS))), (3, .own 7 1 xs.length), (4, .c (.i k))] [(7, .row 1 (partly enc_BoatS [.sl 6 []] xs k))]) (fun k => xs.length - k) 0 (by simp) (by apply le_of <;> simp [AV.refs1, AV.ref0, Obj.refs1, partly_zero]) ?_
  rintro k hk
  rcases Nat.lt_or_ge k xs.length with hlt | hge
  · obtain ⟨e, he⟩ : ∃ e, xs[k]? = some e := ⟨_, List.getElem?_eq_getElem hlt⟩
    have hs := partly_set (f := enc_BoatS) (z := [.sl 6 []]) he
    have hd : ((partly enc_BoatS [.sl 6 []] xs k)[k]?.getD []).set 0 (.sl 6 (e.map Boat.enc)) = [.sl 6 (e.map Boat.enc)] := by
      have := partly_get (f := enc_BoatS) (z := [.sl 6 []]) (n := 1) rfl (fun _ => rfl) hlt
      obtain ⟨x, hx⟩ := List.length_eq_one_iff.1 this
      rw [hx]; rfl
    have hs2 : (partly enc_BoatS [.sl 6 []] xs k).set k [.sl 6 (e.map Boat.enc)] = partly enc_BoatS [.sl 6 []] xs (k + 1) := hs
    simp -dsimp -implicitDefEqProofs [he, lt_t hlt]
    first
      | refine fun _ => call_pure (toBoatS_c e (hl.2 e (List.mem_of_getElem? he))) (by simp) rfl ?_
      | refine fun _ => ⟨_, _, toBoatS_c e (hl.2 e (List.mem_of_getElem? he)), by simp, .inl rfl, ?_⟩
    simp -dsimp -implicitDefEqProofs [lt_t hlt, partly_len hk, hd, hs2]
    exact ⟨hlt, inI_succ hlt hlen, k + 1, hlt, by omega, by apply le_of <;> simp [AV.refs1, AV.ref0, Obj.refs1]⟩
  · simp -dsimp -implicitDefEqProofs [lt_f hge]
    intro _
    rw [partly_all hge, List.take_of_length_le (by simp)]
theorem eqBoatSS_c (es fs : List (List Boat)) : PureF Tryz.prog n_laws_eqBoatSS [.c (.sl 1 (es.map enc_BoatS)), .c (.sl 1 (fs.map enc_BoatS))] (.c (.b (decide (es = fs)))) := by
  refine pure_of h_laws_eqBoatSS (by simp) fun hwf => ?_
  simp -dsimp -implicitDefEqProofs [c_laws_eqBoatSS]
  intro hl1 hl2
  refine ⟨fun h e => h (by rw [e]), fun hlen => ?_⟩
  have hlen' : es.length = fs.length := by omega
  refine loop_rule (ι := Nat) (fun k => k ≤ es.length ∧ es.take k = fs.take k) (fun k => stOf [(0, .c (.sl 1 (es.map enc_BoatS))), (1, .c (.sl 1 (fs.map enc_BoatS))), (5, .c (.i k))] []) (fun k => es.length - k) 0 (by simp) (by apply le_of <;> simp [AV.refs1, AV.ref0, Obj.refs1]) ?_
  rintro k ⟨hk, htk⟩
  rcases Nat.lt_or_ge k es.length with hlt | hge
  · obtain ⟨e, he⟩ : ∃ e, es[k]? = some e := ⟨_, List.getElem?_eq_getElem hlt⟩
    obtain ⟨f, hf⟩ : ∃ f, fs[k]? = some f := ⟨_, List.getElem?_eq_getElem (by omega)⟩
    simp -dsimp -implicitDefEqProofs [he, hf, lt_t hlt, lt_t (hlen' ▸ hlt)]
    intro _
    refine ⟨_, _, eqBoatS_c e f, by simp, .inr rfl, ?_⟩
    simp -dsimp -implicitDefEqProofs
    refine ⟨fun h => ne_of_get he hf h, fun h => ⟨inI_succ hlt hl1, k + 1, ⟨hlt, take_eq_succ he hf htk h⟩, by omega, by apply le_of <;> simp [AV.refs1, AV.ref0, Obj.refs1]⟩⟩
  · simp -dsimp -implicitDefEqProofs [lt_f hge]
    intro _
    exact eq_of_take hge hlen' htk
structure Train where
  Up : Bool
  Rows : List (List Boat)
  deriving DecidableEq, Inhabited
@[simp] def Train.enc (e : Train) : List C := [.b e.Up, .sl 1 (e.Rows.map enc_BoatS)]
-- Train
def sz_Train (e : Train) (l : Int) : Int := andSz (sz_BoatSS e.Rows l) fun l => l
def Train.small (e : Train) : Prop := small_BoatSS e.Rows
theorem sz_Train_ok : SzOk sz_Train Train.small := by
  intro e l h0 h1
  unfold sz_Train
  rcases sz_BoatSS_ok e.Rows _ h0 h1 with e0 | ⟨a0, b0, s0⟩
  · exact .inl (andSz_neg (by omega))
  rw [andSz_pos a0]
  exact .inr ⟨a0, by omega, s0⟩
theorem sz_Train_c (e : Train) (l : Int) (h0 : 0 ≤ l) (h1 : l ≤ 1048576) : PureF Tryz.prog n_laws_szTrain [.agg (e.enc.map .c), .c (.i l)] (.c (.i (sz_Train e l))) := by
  refine pure_of h_laws_szTrain (by simp) fun hwf => ?_
  simp -dsimp -implicitDefEqProofs [c_laws_szTrain]
  refine call_lend (sz_BoatSS_c e.Rows _ h0 h1) (by simp) rfl ?_
  simp -dsimp -implicitDefEqProofs
  refine ⟨fun h => by simp [sz_Train, andSz_neg h], fun p0 => ?_⟩
  simp [sz_Train, andSz_pos p0]
theorem toTrain_c (e : Train) (hl : Train.small e) : PureF Tryz.prog n_laws_toTrain [.agg (e.enc.map .c)] (.agg (e.enc.map .c)) := by
  refine pure_of h_laws_toTrain (by simp) fun hwf => ?_
  simp -dsimp -implicitDefEqProofs [c_laws_toTrain]
  first
    | refine call_pure (toBoatSS_c e.Rows hl) (by simp) rfl ?_
    | refine ⟨_, _, toBoatSS_c e.Rows hl, by simp, .inl rfl, ?_⟩
  simp -dsimp -implicitDefEqProofs
theorem eqTrain_c (a b : Train) : PureF Tryz.prog n_laws_eqTrain [.agg (a.enc.map .c), .agg (b.enc.map .c)] (.c (.b (decide (a = b)))) := by
  refine pure_of h_laws_eqTrain (by simp) fun hwf => ?_
  obtain ⟨a0, a1⟩ := a
  obtain ⟨b0, b1⟩ := b
  simp -dsimp -implicitDefEqProofs [c_laws_eqTrain, Train.mk.injEq]
  refine ⟨fun h => by simp_all, fun h0 => ?_⟩
  first
    | refine call_lend (eqBoatSS_c a1 b1) (by simp) rfl ?_
    | refine ⟨_, _, eqBoatSS_c a1 b1, by simp, .inr rfl, ?_⟩
  simp -dsimp -implicitDefEqProofs
  refine ⟨fun h => by simp_all, fun h1 => ?_⟩
  simp_all
structure Mover where
  Train : Train
  Place : Int
  deriving DecidableEq, Inhabited
@[simp] def Mover.enc (e : Mover) : List C := [.b e.Train.Up, .sl 1 (e.Train.Rows.map enc_BoatS), .i e.Place]
-- Mover
def sz_Mover (e : Mover) (l : Int) : Int := andSz (sz_Train e.Train l) fun l => l
def Mover.small (e : Mover) : Prop := e.Train.small
theorem sz_Mover_ok : SzOk sz_Mover Mover.small := by
  intro e l h0 h1
  unfold sz_Mover
  rcases sz_Train_ok e.Train _ h0 h1 with e0 | ⟨a0, b0, s0⟩
  · exact .inl (andSz_neg (by omega))
  rw [andSz_pos a0]
  exact .inr ⟨a0, by omega, s0⟩
theorem sz_Mover_c (e : Mover) (l : Int) (h0 : 0 ≤ l) (h1 : l ≤ 1048576) : PureF Tryz.prog n_laws_szMover [.agg (e.enc.map .c), .c (.i l)] (.c (.i (sz_Mover e l))) := by
  refine pure_of h_laws_szMover (by simp) fun hwf => ?_
  simp -dsimp -implicitDefEqProofs [c_laws_szMover]
  refine call_lend (sz_Train_c e.Train _ h0 h1) (by simp) rfl ?_
  simp -dsimp -implicitDefEqProofs
  refine ⟨fun h => by simp [sz_Mover, andSz_neg h], fun p0 => ?_⟩
  simp [sz_Mover, andSz_pos p0]
theorem toMover_c (e : Mover) (hl : Mover.small e) : PureF Tryz.prog n_laws_toMover [.agg (e.enc.map .c)] (.agg (e.enc.map .c)) := by
  refine pure_of h_laws_toMover (by simp) fun hwf => ?_
  simp -dsimp -implicitDefEqProofs [c_laws_toMover]
  first
    | refine call_pure (toTrain_c e.Train hl) (by simp) rfl ?_
    | refine ⟨_, _, toTrain_c e.Train hl, by simp, .inl rfl, ?_⟩
  simp -dsimp -implicitDefEqProofs
theorem eqMover_c (a b : Mover) : PureF Tryz.prog n_laws_eqMover [.agg (a.enc.map .c), .agg (b.enc.map .c)] (.c (.b (decide (a = b)))) := by
  refine pure_of h_laws_eqMover (by simp) fun hwf => ?_
  obtain ⟨a0, a1⟩ := a
  obtain ⟨b0, b1⟩ := b
  simp -dsimp -implicitDefEqProofs [c_laws_eqMover, Mover.mk.injEq]
  first
    | refine call_lend (eqTrain_c a0 b0) (by simp) rfl ?_
    | refine ⟨_, _, eqTrain_c a0 b0, by simp, .inr rfl, ?_⟩
  simp -dsimp -implicitDefEqProofs
  refine ⟨fun h => by simp_all, fun h0 => ?_⟩
  refine ⟨fun h => by simp_all, fun h1 => ?_⟩
  simp_all
theorem toBoatS_o (xs : List Boat) (hl : small_BoatS xs) : OwnF Tryz.prog n_laws_toBoatS [.c (.sl 6 (xs.map Boat.enc))] (.c (.ow 6 (xs.map Boat.enc))) := by
  refine own_of h_laws_toBoatS (by simp) fun hwf => ?_
  simp -dsimp -implicitDefEqProofs [c_laws_toBoatS]
  intro hlen
  have hl1 := hl.1
  refine ⟨by omega, ?_⟩
  refine loop_rule (ι := Nat) (fun k => k ≤ xs.length) (fun k => stOf [(0, .c (.sl 6 (xs.map Boat.enc))), (3, .own 7 6 xs.length), (4, .c (.i k))] [(7, .row 6 (partly Boat.enc [.i 0, .i 0, .i 0, .i 0, .i 0, .i 0] xs k))]) (fun k => xs.length - k) 0 (by simp) (by apply le_of <;> simp [AV.refs1, AV.ref0, Obj.refs1, partly_zero]) ?_
  rintro k hk
  rcases Nat.lt_or_ge k xs.length with hlt | hge
  · obtain ⟨e, he⟩ : ∃ e, xs[k]? = some e := ⟨_, List.getElem?_eq_getElem hlt⟩
    have hs := partly_set (f := Boat.enc) (z := [.i 0, .i 0, .i 0, .i 0, .i 0, .i 0]) he
    have hd := partly_drop (f := Boat.enc) (z := [.i 0, .i 0, .i 0, .i 0, .i 0, .i 0]) (n := 6) rfl hlt
    simp only [Boat.enc] at hs
    simp -dsimp -implicitDefEqProofs [he, lt_t hlt]
    refine fun _ => call_pure (toBoat_c e ) (by simp) rfl ?_
    simp -dsimp -implicitDefEqProofs [lt_t hlt, partly_len hk, hd, hs]
    exact ⟨hlt, inI_succ hlt hlen, k + 1, hlt, by omega, by apply le_of <;> simp [AV.refs1, AV.ref0, Obj.refs1]⟩
  · simp -dsimp -implicitDefEqProofs [lt_f hge]
    intro _
    rw [partly_all hge, List.take_of_length_le (by simp)]
theorem shrs_map {α : Type} {f g : α → List C} (h : ∀ x, shrl (f x) = some (g x)) : ∀ (l : List α), shrs (l.map f) = some (l.map g)
  | [] => rfl
  | x :: l => by simp [shrs, h x, shrs_map h l]
theorem cshr_ot {α : Type} {f g : α → List C} {k : Nat} (h : ∀ x, shrl (f x) = some (g x)) (l : List α) : (C.ot k (l.map f)).shr = some (.sl k (l.map g)) := by simp [C.shr, shrs_map h l]
def eo_BoatS (xs : List Boat) : List C := [.ow 6 (xs.map Boat.enc)]
theorem eo_BoatS_shr (xs : List Boat) : shrl (eo_BoatS xs) = some (enc_BoatS xs) := rfl
theorem toBoatSS_o (xs : List (List Boat)) (hl : small_BoatSS xs) : OwnF Tryz.prog n_laws_toBoatSS [.c (.sl 1 (xs.map enc_BoatS))] (.c (.ot 1 (xs.map eo_BoatS))) := by
  refine own_of h_laws_toBoatSS (by simp) fun hwf => ?_
  simp -dsimp -implicitDefEqProofs [c_laws_toBoatSS]
  intro hlen
  have hl1 := hl.1
  refine ⟨by omega, ?_⟩
  refine loop_rule (ι := Nat) (fun k => k ≤ xs.length) (fun k => stOf [(0, .c (.sl 1 (xs.map enc_BoatS))), (3, .own 7 1 xs.length), (4, .c (.i k))] [(7, .tr 1 0 (partly eo_BoatS [.sl 6 []] xs k))]) (fun k => xs.length - k) 0 (by simp) (by apply le_of <;> simp [AV.refs1, AV.ref0, Obj.refs1, partly_zero, Obj.leO]) ?_
  rintro k hk
  rcases Nat.lt_or_ge k xs.length with hlt | hge
  · obtain ⟨e, he⟩ : ∃ e, xs[k]? = some e := ⟨_, List.getElem?_eq_getElem hlt⟩
    have hs := partly_set (f := eo_BoatS) (z := [.sl 6 []]) he
    have hd : ((partly eo_BoatS [.sl 6 []] xs k)[k]?.getD []).set 0 (.ow 6 (e.map Boat.enc)) = eo_BoatS e := by
      have := partly_get (f := eo_BoatS) (z := [.sl 6 []]) (n := 1) rfl (fun _ => rfl) hlt
      obtain ⟨x, hx⟩ := List.length_eq_one_iff.1 this
      rw [hx]; rfl
    simp -dsimp -implicitDefEqProofs [he, lt_t hlt]
    intro _
    first
      | refine call_own (toBoatS_o e (hl.2 e (List.mem_of_getElem? he))) (by simp ) (by simp [AV.closed, AV.closed1, C.closed]) (by simp [freshO]) ?_
      | refine callE_own (toBoatS_o e (hl.2 e (List.mem_of_getElem? he))) (by simp ) (by simp [AV.closed, AV.closed1, C.closed]) (by simp [freshO]) ?_
    simp -dsimp -implicitDefEqProofs [lt_t hlt, partly_len hk, take_full, setAt, hd, hs]
    exact ⟨hlt, inI_succ hlt hlen, k + 1, hlt, by omega, by apply le_of <;> simp [AV.refs1, AV.ref0, Obj.refs1, Obj.leO]⟩
  · simp -dsimp -implicitDefEqProofs [lt_f hge]
    intro _
    rw [partly_all hge, take_full]
@[simp] def Train.oenc (e : Train) : List C := [.b e.Up, .ot 1 (e.Rows.map eo_BoatS)]
theorem Train.oenc_shr (e : Train) : shrl e.oenc = some e.enc := by simp [Train.oenc, shrl, cshr_ot eo_BoatS_shr]
theorem toTrain_o (e : Train) (hl : Train.small e) : OwnF Tryz.prog n_laws_toTrain [.agg (e.enc.map .c)] (.agg (e.oenc.map .c)) := by
  refine own_of h_laws_toTrain (by simp) fun hwf => ?_
  simp -dsimp -implicitDefEqProofs [c_laws_toTrain]
  refine call_own (toBoatSS_o e.Rows hl) (by simp) (by simp [AV.closed, AV.closed1, C.closed, eo_BoatS]) (by simp [freshO]) ?_
  simp -dsimp -implicitDefEqProofs [take_full]
def seqM {α : Type} (f : Int → α → List C) (n : α → Nat) : Int → List α → List (List C)
  | _, [] => []
  | k, x :: l => f k x :: seqM f n (k + n x) l
def cnt {α : Type} (n : α → Nat) (l : List α) : Nat := (l.map n).sum
theorem seqM_len {α : Type} {f : Int → α → List C} {n : α → Nat} : ∀ {l : List α} {k : Int}, (seqM f n k l).length = l.length
  | [], _ => rfl
  | x :: l, k => by simp [seqM, seqM_len (l := l)]
theorem seqM_snoc {α : Type} {f : Int → α → List C} {n : α → Nat} {x : α} : ∀ {l : List α} {k : Int}, seqM f n k (l ++ [x]) = seqM f n k l ++ [f (k + cnt n l) x]
  | [], k => by simp [seqM, cnt]
  | y :: l, k => by
    simp only [List.cons_append, seqM, seqM_snoc (l := l)]
    simp [cnt, Int.add_assoc]
def seqTo {α : Type} (f : Int → α → List C) (g : α → List C) (n : α → Nat) (k : Int) (xs : List α) (i : Nat) : List (List C) := seqM f n k (xs.take i) ++ (xs.drop i).map g
def cntTo {α : Type} (n : α → Nat) (xs : List α) (i : Nat) : Nat := cnt n (xs.take i)
section
variable {α : Type} {f : Int → α → List C} {g : α → List C} {n : α → Nat} {k : Int} {xs : List α} {i : Nat} {x : α}
theorem cntTo_zero : cntTo n xs 0 = 0 := rfl
theorem cntTo_succ (h : xs[i]? = some x) : cntTo n xs (i + 1) = cntTo n xs i + n x := by
  unfold cntTo cnt; rw [List.take_succ, h, List.map_append, List.sum_append]; simp
theorem cntTo_all (h : xs.length ≤ i) : cntTo n xs i = cnt n xs := by unfold cntTo; rw [List.take_of_length_le h]
theorem cntTo_le : cntTo n xs i ≤ cnt n xs := by
  unfold cntTo cnt
  conv => rhs; rw [← List.take_append_drop i xs]
  rw [List.map_append, List.sum_append]; omega
theorem seqTo_zero : seqTo f g n k xs 0 = xs.map g := by simp [seqTo, seqM]
theorem seqTo_len : (seqTo f g n k xs i).length = xs.length := by
  unfold seqTo; rw [List.length_append, seqM_len, List.length_map, ← List.length_append, List.take_append_drop]
theorem seqTo_all (h : xs.length ≤ i) : seqTo f g n k xs i = seqM f n k xs := by
  unfold seqTo; rw [List.take_of_length_le h, List.drop_of_length_le h]; simp
theorem seqTo_get (h : xs[i]? = some x) : (seqTo f g n k xs i)[i]? = some (g x) := by
  have hlt := (List.getElem?_eq_some_iff.1 h).1
  have e : (seqM f n k (xs.take i)).length = i := by rw [seqM_len, List.length_take]; omega
  unfold seqTo
  rw [List.getElem?_append_right (by omega), e, Nat.sub_self, List.getElem?_map, List.getElem?_drop, Nat.add_zero, h]; rfl
theorem seqTo_set (h : xs[i]? = some x) : (seqTo f g n k xs i).set i (f (k + cntTo n xs i) x) = seqTo f g n k xs (i + 1) := by
  have hlt := (List.getElem?_eq_some_iff.1 h).1
  have e : (seqM f n k (xs.take i)).length = i := by rw [seqM_len, List.length_take]; omega
  unfold seqTo cntTo
  rw [List.set_append_right _ _ (by omega), e, Nat.sub_self, List.drop_eq_getElem_cons hlt, (List.getElem?_eq_some_iff.1 h).2, List.map_cons, List.set_cons_zero, List.take_succ, h]
  simp only [Option.toList_some]
  rw [seqM_snoc, List.append_assoc]; rfl
end
def mkB (k : Int) : List C := [.i k, .i (k + 1), .i (k + 1 + 1), .i (k + 1 + 1 + 1), .i (k + 1 + 1 + 1 + 1), .i (k + 1 + 1 + 1 + 1 + 1)]
theorem markBoatS_c (xs : List Boat) (k : Int) (h0 : 0 ≤ k) (h1 : k + 6 * xs.length ≤ 8000000000000000000) :
    InF Tryz.prog n_laws_markBoatS (.c (cw 6 (xs.map Boat.enc))) (.c (cw 6 (marked mkB 6 [] k xs.length))) [.c (.i k)] (.c (.i (k + 6 * xs.length))) := by
  rcases Nat.eq_zero_or_pos xs.length with hx | hx
  · have : xs = [] := List.length_eq_zero_iff.1 hx
    subst this
    refine in_of h_laws_markBoatS (by simp) (by simp) rfl fun hwf => ?_
    simp -dsimp -implicitDefEqProofs [c_laws_markBoatS, marked]
    refine loop_rule (ι := Unit) (fun _ => True) (fun _ => stOf [(0, .c (.sl 6 [])), (1, .c (.i k)), (5, .c (.i 0)), (1000000, .c (.sl 6 []))] []) (fun _ => 0) () trivial (by apply le_of <;> simp [AV.refs1, AV.ref0, Obj.refs1]) ?_
    rintro _ _
    simp -dsimp -implicitDefEqProofs
  · rw [cw_pos (by simpa using hx), cw_pos (by rw [marked_n]; exact hx)]
    refine in_of h_laws_markBoatS (by simp) (by simp) rfl fun hwf => ?_
    simp -dsimp -implicitDefEqProofs [c_laws_markBoatS]
    refine loop_rule (ι := Nat) (fun i => i ≤ xs.length) (fun i => stOf [(0, .own 0 6 xs.length), (1, .c (.i (k + 6 * i))), (5, .c (.i i)), (1000000, .own 0 6 xs.length)] [(0, .row 6 (marked mkB 6 (xs.map Boat.enc) k i))]) (fun i => xs.length - i) 0 (by simp) (by apply le_of <;> simp [AV.refs1, AV.ref0, Obj.refs1, marked_zero]) ?_
    rintro i hi
    rcases Nat.lt_or_ge i xs.length with hlt | hge
    · obtain ⟨e, he⟩ : ∃ e, xs[i]? = some e := ⟨_, List.getElem?_eq_getElem hlt⟩
      have hg := marked_get (mk := mkB) (c := 6) (k := k) (rows := xs.map Boat.enc) (i := i) (r := e.enc) (by simp [he])
      have hl := marked_len (mk := mkB) (c := 6) (k := k) (rows := xs.map Boat.enc) (i := i) (by simpa using hi)
      have hs := marked_set (mk := mkB) (c := 6) (k := k) (rows := xs.map Boat.enc) (i := i) (by simpa using hlt)
      rw [List.length_map] at hl
      generalize marked mkB 6 (xs.map Boat.enc) k i = M at *
      have hlt2 : i < M.length := by omega
      have hself : ∀ a, (M.set i a)[i]? = some a := fun a => List.getElem?_set_self hlt2
      simp only [mkB] at hs
      simp only [Boat.enc] at hg
      simp -dsimp -implicitDefEqProofs [lt_t hlt, hg, hl, hlt2, hself]
      intro hlen
      refine ⟨hlt, by unfold inI; omega, hlt, by unfold inI; omega, hlt, by unfold inI; omega, hlt, by unfold inI; omega, hlt, by unfold inI; omega, hlt, by unfold inI; omega, by unfold inI; omega, i + 1, hlt, by omega, ?_⟩
      apply le_of <;> simp [AV.refs1, AV.ref0, Obj.refs1, hs, hself] <;> omega
    · have : i = xs.length := by omega
      subst this
      simp -dsimp -implicitDefEqProofs
      intro _
      have e := marked_all (mk := mkB) (c := 6) (rows := xs.map Boat.enc) (k := k) (i := xs.length) (by simp)
      rw [e, List.length_map, List.take_of_length_le (by rw [marked_n]; exact Nat.le_refl _)]
def nB (r : List Boat) : Nat := 6 * r.length
def fB (k : Int) (r : List Boat) : List C := [.ow 6 (marked mkB 6 [] k r.length)]
theorem markBoatSS_c (xs : List (List Boat)) (k : Int) (h0 : 0 ≤ k) (h1 : k + cnt nB xs ≤ 8000000000000000000) :
    InF Tryz.prog n_laws_markBoatSS (.c (ct 1 (xs.map eo_BoatS))) (.c (ct 1 (seqM fB nB k xs))) [.c (.i k)] (.c (.i (k + cnt nB xs))) := by
  rcases Nat.eq_zero_or_pos xs.length with hx | hx
  · have : xs = [] := List.length_eq_zero_iff.1 hx
    subst this
    refine in_of h_laws_markBoatSS (by simp) (by simp) rfl fun hwf => ?_
    simp -dsimp -implicitDefEqProofs [c_laws_markBoatSS, seqM, cnt]
    refine loop_rule (ι := Unit) (fun _ => True) (fun _ => stOf [(0, .c (.sl 1 [])), (1, .c (.i k)), (5, .c (.i 0)), (1000000, .c (.sl 1 []))] []) (fun _ => 0) () trivial (by apply le_of <;> simp [AV.refs1, AV.ref0, Obj.refs1]) ?_
    rintro _ _
    simp -dsimp -implicitDefEqProofs
  · rw [ct_pos (by simpa using hx), ct_pos (by rw [seqM_len]; exact hx)]
    refine in_of h_laws_markBoatSS (by simp) (by simp) rfl fun hwf => ?_
    simp -dsimp -implicitDefEqProofs [c_laws_markBoatSS]
    refine loop_rule (ι := Nat) (fun i => i ≤ xs.length) (fun i => stOf [(0, .own 0 1 xs.length), (1, .c (.i (k + cntTo nB xs i))), (5, .c (.i i)), (1000000, .own 0 1 xs.length)] [(0, .tr 1 0 (seqTo fB eo_BoatS nB k xs i))]) (fun i => xs.length - i) 0 (by simp) (by apply le_of <;> simp [AV.refs1, AV.ref0, Obj.refs1, seqTo_zero, cntTo_zero, Obj.leO]) ?_
    rintro i hi
    rcases Nat.lt_or_ge i xs.length with hlt | hge
    · obtain ⟨e, he⟩ : ∃ e, xs[i]? = some e := ⟨_, List.getElem?_eq_getElem hlt⟩
      have hg := seqTo_get (f := fB) (g := eo_BoatS) (n := nB) (k := k) he
      have hl := seqTo_len (f := fB) (g := eo_BoatS) (n := nB) (k := k) (xs := xs) (i := i)
      have hs := seqTo_set (f := fB) (g := eo_BoatS) (n := nB) (k := k) he
      have hc := cntTo_succ (n := nB) he
      have hle := cntTo_le (n := nB) (xs := xs) (i := i + 1)
      have hn : nB e = 6 * e.length := rfl
      generalize hM : seqTo fB eo_BoatS nB k xs i = M at *
      have hlt2 : i < M.length := by omega
      have g1 : M[i] = eo_BoatS e := (List.getElem?_eq_some_iff.1 hg).2
      have hself : ∀ a, (M.set i a)[i]? = some a := fun a => List.getElem?_set_self hlt2
      simp -dsimp -implicitDefEqProofs [lt_t hlt, hg, hl, hlt2, g1, eo_BoatS]
      intro hlen
      refine ⟨hlt, call_inSub (k0 := 1) (ver := 0) (j := 0) (i := (i : Int)) (rows := M) (r := eo_BoatS e) (c := .ow 6 (e.map Boat.enc)) (c' := .ow 6 (marked mkB 6 [] (k + cntTo nB xs i) e.length)) (markBoatS_c e (k + cntTo nB xs i) (by omega) (by omega)) (by simp) rfl rfl rfl (by simpa using hg) rfl ⟨_, by rw [marked_n]; simp, rfl, rfl, rfl⟩ (by simp [C.sz]) ?_⟩
      have e0 : (eo_BoatS e).set 0 (.ow 6 (marked mkB 6 [] (k + cntTo nB xs i) e.length)) = fB (k + cntTo nB xs i) e := rfl
      rw [e0]
      simp -dsimp -implicitDefEqProofs
      refine ⟨inI_succ hlt hlen, i + 1, hlt, by omega, ?_⟩
      apply le_of <;> simp [AV.refs1, AV.ref0, Obj.refs1, Obj.leO, hs] <;> omega
    · have : i = xs.length := by omega
      subst this
      simp -dsimp -implicitDefEqProofs
      intro _
      rw [seqTo_all (Nat.le_refl _), cntTo_all (Nat.le_refl _), List.take_of_length_le (by rw [seqM_len]; exact Nat.le_refl _)]
      exact ⟨rfl, rfl⟩
theorem flat_len {α : Type} {B : Nat} : ∀ {l : List (List α)}, (∀ r ∈ l, r.length ≤ B) → l.flatten.length ≤ l.length * B
  | [], _ => by simp
  | r :: l, h => by
    have h1 := flat_len (l := l) fun x hx => h x (by simp [hx])
    have h2 := h r (by simp)
    simp only [List.flatten_cons, List.length_append, List.length_cons, Nat.add_mul, Nat.one_mul]
    omega
/-- The elements of the first k. -/
def heads {α : Type} (l : List (List α)) (k : Nat) : List α := (l.take k).flatten
theorem heads_zero {α : Type} {l : List (List α)} : heads l 0 = [] := rfl
theorem heads_succ {α : Type} {l : List (List α)} {k : Nat} {r : List α} (h : l[k]? = some r) : heads l (k + 1) = heads l k ++ r := by
  unfold heads; rw [List.take_succ, h]; simp
theorem heads_all {α : Type} {l : List (List α)} {k : Nat} (h : l.length ≤ k) : heads l k = l.flatten := by
  unfold heads; rw [List.take_of_length_le h]
theorem heads_bound {α : Type} {l : List (List α)} (h : smallS (smallS fun _ : α => True) l) (k : Nat) : (heads l k).length ≤ 1099511627776 := by
  have h1 := flat_len (l := l.take k) (B := 1048576) fun r hr => (h.2 r (List.mem_of_mem_take hr)).1
  have h2 := h.1
  have h3 : (l.take k).length ≤ 1048576 := by simp; omega
  have h4 := Nat.mul_le_mul_right 1048576 h3
  unfold heads
  omega
def Train.boats (t : Train) : List Boat := t.Rows.flatten
theorem boats_le {t : Train} (h : t.small) : t.boats.length ≤ 1099511627776 := by
  have := heads_bound h t.Rows.length
  rwa [heads_all (Nat.le_refl _)] at this
theorem l04Boats_c (t : Train) (h : t.small) : PureF Tryz.prog n_spec_l04Boats [.agg (t.enc.map .c)] (.c (.sl 6 (t.boats.map Boat.enc))) := by
  refine pure_of h_spec_l04Boats (by simp) fun hwf => ?_
  simp -dsimp -implicitDefEqProofs [c_spec_l04Boats]
  refine loop_rule (ι := Nat) (fun k => k ≤ t.Rows.length) (fun k => stOf [(1, .box 1 0), (3, .own 5 6 (heads t.Rows k).length), (4, .c (.i k))] [(1, .box (t.enc.map .c)), (5, .row 6 ((heads t.Rows k).map Boat.enc))]) (fun k => t.Rows.length - k) 0 (by simp) (by apply le_of <;> simp [AV.refs1, AV.ref0, Obj.refs1, heads_zero]) ?_
  rintro k hk
  rcases Nat.lt_or_ge k t.Rows.length with hlt | hge
  · obtain ⟨r, hr⟩ : ∃ r, t.Rows[k]? = some r := ⟨_, List.getElem?_eq_getElem hlt⟩
    have hb := heads_bound h (k + 1)
    have hf := heads_succ hr
    rw [hf, List.length_append] at hb
    have hm := h.1
    simp -dsimp -implicitDefEqProofs [hr, lt_t hlt]
    intro hlen
    refine ⟨by omega, inI_succ hlt hlen, k + 1, hlt, by omega, ?_⟩
    apply le_of <;> simp [AV.refs1, AV.ref0, Obj.refs1, hf]
  · simp -dsimp -implicitDefEqProofs [lt_f hge]
    rw [heads_all hge]
    intro _
    rw [List.take_of_length_le (by rw [List.length_map]; exact Nat.le_refl _)]; rfl
def BoatOk (b : Boat) : Bool := inRange b.Id 1 9999 && inRange b.Length 1 200 && inRange b.Width 1 30 && inRange b.Draught 1 100 && inRange b.Speed 1 50 && inRange b.Class 0 2
theorem BoatOk_spec (b : Boat) : PureF Tryz.prog n_spec_BoatOk [.agg (b.enc.map .c)] (.c (.b (BoatOk b))) := by
  refine pure_of h_spec_BoatOk (by simp) fun hwf => ?_
  simp -dsimp -implicitDefEqProofs [c_spec_BoatOk]
  refine call_lend (inRange_spec b.Id 1 9999) (by simp) rfl ?_
  simp -dsimp -implicitDefEqProofs
  refine ⟨fun h => ?_, fun h => by simp [BoatOk, h]⟩
  refine call_lend (inRange_spec b.Length 1 200) (by simp) rfl ?_
  simp -dsimp -implicitDefEqProofs
  refine ⟨fun h1 => ?_, fun h1 => by simp [BoatOk, h1]⟩
  refine call_lend (inRange_spec b.Width 1 30) (by simp) rfl ?_
  simp -dsimp -implicitDefEqProofs
  refine ⟨fun h2 => ?_, fun h1 => by simp [BoatOk, h1]⟩
  refine call_lend (inRange_spec b.Draught 1 100) (by simp) rfl ?_
  simp -dsimp -implicitDefEqProofs
  refine ⟨fun h3 => ?_, fun h1 => by simp [BoatOk, h1]⟩
  refine call_lend (inRange_spec b.Speed 1 50) (by simp) rfl ?_
  simp -dsimp -implicitDefEqProofs
  refine ⟨fun h4 => ?_, fun h1 => by simp [BoatOk, h1]⟩
  refine call_lend (inRange_spec b.Class 0 2) (by simp) rfl ?_
  simp -dsimp -implicitDefEqProofs
  simp [BoatOk, h, h1, h2, h3, h4]
theorem BoatOk_impl (b : Boat) : PureF Tryz.prog n_impl_BoatOk [.agg (b.enc.map .c)] (.c (.b (BoatOk b))) := by
  refine pure_of h_impl_BoatOk (by simp) fun hwf => ?_
  simp -dsimp -implicitDefEqProofs [c_impl_BoatOk]
  refine call_lend (inRange_impl b.Id 1 9999) (by simp) rfl ?_
  simp -dsimp -implicitDefEqProofs
  refine ⟨fun h => ?_, fun h => by simp [BoatOk, h]⟩
  refine call_lend (inRange_impl b.Length 1 200) (by simp) rfl ?_
  simp -dsimp -implicitDefEqProofs
  refine ⟨fun h1 => ?_, fun h1 => by simp [BoatOk, h1]⟩
  refine call_lend (inRange_impl b.Width 1 30) (by simp) rfl ?_
  simp -dsimp -implicitDefEqProofs
  refine ⟨fun h2 => ?_, fun h1 => by simp [BoatOk, h1]⟩
  refine call_lend (inRange_impl b.Draught 1 100) (by simp) rfl ?_
  simp -dsimp -implicitDefEqProofs
  refine ⟨fun h3 => ?_, fun h1 => by simp [BoatOk, h1]⟩
  refine call_lend (inRange_impl b.Speed 1 50) (by simp) rfl ?_
  simp -dsimp -implicitDefEqProofs
  refine ⟨fun h4 => ?_, fun h1 => by simp [BoatOk, h1]⟩
  refine call_lend (inRange_impl b.Class 0 2) (by simp) rfl ?_
  simp -dsimp -implicitDefEqProofs
  simp [BoatOk, h, h1, h2, h3, h4]
/-- Place of n in a list, or -1. -/
def indexOf (l : List Int) (n : Int) : Int := match l.findIdx? (fun x => n == x) with | some i => i | none => -1
theorem indexOf_nonneg {l : List Int} {n : Int} : (0 ≤ indexOf l n) = (n ∈ l) := by
  unfold indexOf
  cases h : l.findIdx? (fun x => n == x) with
  | none =>
    rw [List.findIdx?_eq_none_iff] at h
    show (0 ≤ (-1 : Int)) = _
    simp only [eq_iff_iff]
    refine ⟨fun h1 => by omega, fun hm => ?_⟩
    have := h n hm
    simp at this
  | some i =>
    rw [List.findIdx?_eq_some_iff_getElem] at h
    obtain ⟨hi, h1, _⟩ := h
    simp only [eq_iff_iff]
    refine ⟨fun _ => ?_, fun _ => by omega⟩
    have : n = l[i] := by simpa using h1
    rw [this]; exact List.getElem_mem _
theorem indexOf_at {l : List Int} {n : Int} {k : Nat} (h : l[k]? = some n) (hn : ∀ x ∈ l.take k, n ≠ x) : indexOf l n = k := by
  unfold indexOf
  have : l.findIdx? (fun x => n == x) = some k := by
    rw [List.findIdx?_eq_some_iff_getElem]
    obtain ⟨hk1, hk2⟩ := List.getElem?_eq_some_iff.1 h
    refine ⟨hk1, by simp [hk2], fun j hj => ?_⟩
    have := hn (l[j]'(by omega)) (List.mem_take_iff_getElem.2 ⟨j, by omega, rfl⟩)
    simpa using this
  rw [this]
theorem indexOf_no {l : List Int} {n : Int} {k : Nat} (hk : l.length ≤ k) (hn : ∀ x ∈ l.take k, n ≠ x) : indexOf l n = -1 := by
  rw [List.take_of_length_le hk] at hn
  unfold indexOf
  have : l.findIdx? (fun x => n == x) = none := by
    rw [List.findIdx?_eq_none_iff]
    intro x hx
    simpa using hn x hx
  rw [this]
theorem takes_ne {l : List Int} {n x : Int} {k : Nat} (h : l[k]? = some x) (hx : n ≠ x) (hn : ∀ x ∈ l.take k, n ≠ x) : ∀ x ∈ l.take (k + 1), n ≠ x := by
  intro y hy
  rw [List.take_succ, h] at hy
  rcases List.mem_append.1 hy with h1 | h1
  · exact hn y h1
  · simp at h1; rw [h1]; exact hx
theorem Index_c (l : List Int) (n : Int) : PureF Tryz.prog n_slices_Index___int_int_ [.c (.sl 1 (l.map ienc)), .c (.i n)] (.c (.i (indexOf l n))) := by
  refine pure_of h_slices_Index___int_int_ (by simp) fun hwf => ?_
  simp -dsimp -implicitDefEqProofs [c_slices_Index___int_int_]
  intro hlen
  refine loop_rule (ι := Nat) (fun k => k ≤ l.length ∧ ∀ x ∈ l.take k, n ≠ x) (fun k => stOf [(0, .c (.sl 1 (l.map ienc))), (1, .c (.i n)), (7, .c (.i l.length)), (8, .c (.i k))] []) (fun k => l.length - k) 0 (by simp) (by apply le_of <;> simp [AV.refs1, AV.ref0, Obj.refs1]) ?_
  rintro k ⟨hk, hn⟩
  rcases Nat.lt_or_ge k l.length with hlt | hge
  · obtain ⟨x, hx⟩ : ∃ x, l[k]? = some x := ⟨_, List.getElem?_eq_getElem hlt⟩
    simp -dsimp -implicitDefEqProofs [hx, lt_t hlt]
    refine ⟨fun h => ?_, fun h => ⟨inI_succ hlt hlen, k + 1, ⟨hlt, takes_ne hx h hn⟩, by omega, by apply le_of <;> simp [AV.refs1, AV.ref0, Obj.refs1]⟩⟩
    exact indexOf_at (h ▸ hx) hn
  · simp -dsimp -implicitDefEqProofs [lt_f hge]
    exact indexOf_no hge hn
theorem Contains_c (l : List Int) (n : Int) : PureF Tryz.prog n_slices_Contains___int_int_ [.c (.sl 1 (l.map ienc)), .c (.i n)] (.c (.b (decide (n ∈ l)))) := by
  refine pure_of h_slices_Contains___int_int_ (by simp) fun hwf => ?_
  simp -dsimp -implicitDefEqProofs [c_slices_Contains___int_int_]
  refine call_lend (Index_c l n) (by simp) rfl ?_
  simp -dsimp -implicitDefEqProofs [indexOf_nonneg]
def idOf (b : Boat) : Int := b.Id
def full (r : List Boat) : Bool := decide (r.length ≠ 0)
theorem full_iff {r : List Boat} : full r = true ↔ r.length ≠ 0 := by simp [full]
def TrainOk (t : Train) : Bool := t.Rows.all full && t.boats.all BoatOk && decide ((t.boats.map idOf).Nodup) && inRange t.boats.length 1 6
theorem nodup_take {l : List Boat} {k : Nat} {b : Boat} (h : l[k]? = some b) : (((l.take (k + 1)).map idOf).Nodup ↔ ((l.take k).map idOf).Nodup ∧ b.Id ∉ (l.take k).map idOf) := by
  rw [List.take_succ, h, List.map_append]
  simp only [Option.toList_some, List.map_cons, List.map_nil, List.nodup_append, List.nodup_cons, List.not_mem_nil, not_false_eq_true, List.nodup_nil, and_self, true_and, List.mem_singleton, forall_eq, idOf]
  constructor
  · rintro ⟨h1, h2⟩; exact ⟨h1, fun hm => h2 _ hm rfl⟩
  · rintro ⟨h1, h2⟩; exact ⟨h1, fun x hx e => h2 (e ▸ hx)⟩
theorem not_nodup {l : List Boat} {k : Nat} (h : ¬ ((l.take k).map idOf).Nodup) : ¬ (l.map idOf).Nodup := by
  intro hn
  refine h ?_
  rw [← List.take_append_drop k l, List.map_append] at hn
  exact (List.nodup_append.1 hn).1
def idsTo (l : List Boat) (k : Nat) : List Int := (l.take k).map idOf
theorem TrainOk_spec (t : Train) (h : t.small) : PureF Tryz.prog n_spec_TrainOk [.agg (t.enc.map .c)] (.c (.b (TrainOk t))) := by
  refine pure_of h_spec_TrainOk (by simp) fun hwf => ?_
  simp -dsimp -implicitDefEqProofs [c_spec_TrainOk]
  refine call_pure (l04Boats_c t h) (by simp) rfl ?_
  simp -dsimp -implicitDefEqProofs
  refine loop_rule (ι := Nat) (fun k => k ≤ t.Rows.length ∧ ∀ r ∈ t.Rows.take k, full r = true) (fun k => stOf [(1, .box 1 0), (3, .c (.sl 6 (t.boats.map Boat.enc))), (4, .c (.i k))] [(1, .box (t.enc.map .c))]) (fun k => t.Rows.length - k) 0 (by simp) (by apply le_of <;> simp [AV.refs1, AV.ref0, Obj.refs1]) ?_
  rintro k ⟨hk, hall⟩
  rcases Nat.lt_or_ge k t.Rows.length with hlt | hge
  · obtain ⟨r, hr⟩ : ∃ r, t.Rows[k]? = some r := ⟨_, List.getElem?_eq_getElem hlt⟩
    simp -dsimp -implicitDefEqProofs [hr, lt_t hlt]
    intro hlen _
    refine ⟨fun h0 => ?_, fun h0 => ?_⟩
    · have : t.Rows.all full = false := all_false (p := full) hr (by simp [full, h0])
      simp only [TrainOk, this, Bool.false_and]
    · exact ⟨inI_succ hlt hlen, k + 1, ⟨by omega, all_take_succ (p := full) hr hall (by simp [full, h0])⟩, by omega, by apply le_of <;> simp [AV.refs1, AV.ref0, Obj.refs1]⟩
  · have hrows := all_of_take (p := full) hge hall
    simp -dsimp -implicitDefEqProofs [lt_f hge]
    intro _
    have hbl := boats_le h
    refine loop_rule (ι := Nat) (fun k => k ≤ t.boats.length ∧ (∀ b ∈ t.boats.take k, BoatOk b = true) ∧ (idsTo t.boats k).Nodup) (fun k => stOf [(3, .c (.sl 6 (t.boats.map Boat.enc))), (5, .c (.i k))] []) (fun k => t.boats.length - k) 0 (by simp [idsTo]) (by apply le_of <;> simp [AV.refs1, AV.ref0, Obj.refs1]) ?_
    rintro k ⟨hk, hok, hnd⟩
    have fin : t.boats.length ≤ 6 → k = t.boats.length → TrainOk t = inRange t.boats.length 1 6 := by
      intro h6 e
      have h1 := all_of_take (p := BoatOk) (by omega) hok
      rw [e, idsTo, List.take_length] at hnd
      simp [TrainOk, hrows, h1, hnd]
    rcases Nat.lt_or_ge k t.boats.length with hlt | hge
    · obtain ⟨b, hb⟩ : ∃ b, t.boats[k]? = some b := ⟨_, List.getElem?_eq_getElem hlt⟩
      by_cases h6 : t.boats.length ≤ 6
      · have h6' : ((t.boats.length : Int) ≤ 6) = True := by simp; omega
        simp -dsimp -implicitDefEqProofs [hb, lt_t hlt, h6']
        intro hlen
        refine call_lend (BoatOk_spec b) (by simp) rfl ?_
        simp -dsimp -implicitDefEqProofs
        refine ⟨fun h1 => ?_, fun h1 => ?_⟩
        · have : t.boats.all BoatOk = false := all_false (p := BoatOk) hb h1
          simp only [TrainOk, this, Bool.false_and, Bool.and_false]
        have hok' := all_take_succ (p := BoatOk) hb hok h1
        refine loop_rule (ι := Nat) (fun i => i ≤ k ∧ b.Id ∉ idsTo t.boats i) (fun i => stOf [(3, .c (.sl 6 (t.boats.map Boat.enc))), (5, .c (.i k)), (6, .c (.i i))] []) (fun i => k - i) 0 (by simp [idsTo]) (by apply le_of <;> simp [AV.refs1, AV.ref0, Obj.refs1]) ?_
        rintro i ⟨hi, hni⟩
        rcases Nat.lt_or_ge i k with hlt2 | hge2
        · obtain ⟨c, hc⟩ : ∃ c, t.boats[i]? = some c := ⟨_, List.getElem?_eq_getElem (by omega)⟩
          have hi3 : (i : Int) < t.boats.length := by omega
          simp -dsimp -implicitDefEqProofs [hb, hc, lt_t hlt, lt_t hlt2, hi3]
          refine ⟨fun h2 => ?_, fun h2 => ?_⟩
          · have : ¬ (t.boats.map idOf).Nodup := by
              refine not_nodup (k := k + 1) fun hn => ?_
              refine ((nodup_take hb).1 hn).2 ?_
              rw [← h2]
              exact List.mem_map.2 ⟨c, List.mem_iff_getElem?.2 ⟨i, by rw [List.getElem?_take, if_pos hlt2]; exact hc⟩, rfl⟩
            simp [TrainOk, this]
          · refine ⟨by unfold inI; omega, i + 1, ⟨hlt2, ?_⟩, by omega, by apply le_of <;> simp [AV.refs1, AV.ref0, Obj.refs1]⟩
            rw [idsTo, List.take_succ, hc, List.map_append]
            simp only [List.mem_append, Option.toList_some, List.map_cons, List.map_nil, List.mem_singleton, idOf]
            rintro (h3 | h3)
            · exact hni h3
            · exact h2 h3.symm
        · simp -dsimp -implicitDefEqProofs [lt_f hge2]
          have e : i = k := by omega
          rw [e] at hni
          exact ⟨by unfold inI; omega, k + 1, ⟨hlt, hok', (nodup_take hb).2 ⟨hnd, hni⟩⟩, by omega, by apply le_of <;> simp [AV.refs1, AV.ref0, Obj.refs1]⟩
      · have h6' : ((t.boats.length : Int) ≤ 6) = False := by simp; omega
        simp -dsimp -implicitDefEqProofs [hb, lt_t hlt, h6']
        intro hlen
        refine call_lend (inRange_spec t.boats.length 1 6) (by simp) rfl ?_
        simp -dsimp -implicitDefEqProofs
        have h7 : inRange t.boats.length 1 6 = false := inRange_not.2 (by omega)
        simp only [TrainOk, h7, Bool.and_false]
    · simp -dsimp -implicitDefEqProofs [lt_f hge]
      intro hlen
      refine call_lend (inRange_spec t.boats.length 1 6) (by simp) rfl ?_
      simp -dsimp -implicitDefEqProofs
      by_cases h6 : t.boats.length ≤ 6
      · rw [fin h6 (by omega)]
      · have h7 : inRange t.boats.length 1 6 = false := inRange_not.2 (by omega)
        simp only [TrainOk, h7, Bool.and_false]
theorem boats_split {t : Train} {k : Nat} {r : List Boat} (h : t.Rows[k]? = some r) : ∃ m, t.boats = heads t.Rows k ++ r ++ m := by
  refine ⟨(t.Rows.drop (k + 1)).flatten, ?_⟩
  unfold Train.boats
  conv => lhs; rw [← List.take_append_drop (k + 1) t.Rows]
  rw [List.flatten_append, ← heads_succ h]; rfl
theorem tf_full {t : Train} {k : Nat} {r : List Boat} (h : t.Rows[k]? = some r) (h0 : r.length = 0) : TrainOk t = false := by
  have : t.Rows.all full = false := all_false (p := full) h (by simp [full, h0])
  simp only [TrainOk, this, Bool.false_and]
theorem tf_len {t : Train} (h : 6 < t.boats.length) : TrainOk t = false := by
  have h7 : inRange t.boats.length 1 6 = false := inRange_not.2 (by omega)
  simp only [TrainOk, h7, Bool.and_false]
theorem tf_boat {t : Train} {b : Boat} (hb : b ∈ t.boats) (h : BoatOk b = false) : TrainOk t = false := by
  obtain ⟨i, hi⟩ := List.getElem?_of_mem hb
  have : t.boats.all BoatOk = false := all_false (p := BoatOk) hi h
  simp only [TrainOk, this, Bool.false_and, Bool.and_false]
theorem tf_ids {t : Train} (h : ¬ (t.boats.map idOf).Nodup) : TrainOk t = false := by simp [TrainOk, h]
/-- The array of the Ids that were met. -/
def seenOf (l : List Boat) : List (List C) := (l.map idOf).map ienc ++ List.replicate (6 - l.length) [.i 0]
theorem seen_len {l : List Boat} (h : l.length ≤ 6) : (seenOf l).length = 6 := by simp [seenOf]; omega
theorem seen_take {l : List Boat} {n : Nat} (h : n = l.length) : (seenOf l).take n = (l.map idOf).map ienc := by
  subst h; unfold seenOf; rw [List.take_append_of_le_length (by simp), List.take_of_length_le (by simp)]
theorem seen_set {l : List Boat} {b : Boat} (h : l.length < 6) : (seenOf l).set l.length [.i b.Id] = seenOf (l ++ [b]) := by
  unfold seenOf
  rw [List.set_append_right _ _ (by simp)]
  have h1 : ((l.map idOf).map ienc).length = l.length := by simp
  rw [h1, Nat.sub_self, show 6 - l.length = (6 - (l.length + 1)) + 1 by omega, List.replicate_succ, List.set_cons_zero]
  simp [idOf]
theorem seen_get {l : List Boat} (h : l.length < 6) : (seenOf l)[l.length]?.getD [] = [.i 0] := by
  unfold seenOf
  rw [List.getElem?_append_right (by simp)]
  have h1 : ((l.map idOf).map ienc).length = l.length := by simp
  rw [h1, Nat.sub_self, List.getElem?_replicate, if_pos (by omega)]; rfl
theorem seen_nil : seenOf [] = List.replicate 6 [.i 0] := rfl
/-- What holds of the boats met so far. -/
structure Met (l : List Boat) : Prop where
  ok : ∀ b ∈ l, BoatOk b = true
  nd : (l.map idOf).Nodup
  len : l.length ≤ 6
theorem Met.snoc {l : List Boat} {b : Boat} (h : Met l) (h1 : BoatOk b = true) (h2 : b.Id ∉ l.map idOf) (h3 : l.length < 6) : Met (l ++ [b]) := by
  refine ⟨?_, ?_, by simp; omega⟩
  · intro x hx
    rcases List.mem_append.1 hx with hx | hx
    · exact h.ok x hx
    · rw [List.mem_singleton.1 hx]; exact h1
  · have := @nodup_take (l ++ [b]) l.length b (by simp)
    rw [show l.length + 1 = (l ++ [b]).length by simp, List.take_length] at this
    rw [this, List.take_left']
    · exact ⟨h.nd, h2⟩
    · rfl
def soFar (t : Train) (k : Nat) (r : List Boat) (j : Nat) : List Boat := heads t.Rows k ++ r.take j
theorem soFar_zero {t : Train} {k : Nat} {r : List Boat} : soFar t k r 0 = heads t.Rows k := by simp [soFar]
theorem soFar_succ {t : Train} {k : Nat} {r : List Boat} {j : Nat} {b : Boat} (h : r[j]? = some b) : soFar t k r (j + 1) = soFar t k r j ++ [b] := by
  unfold soFar; rw [List.take_succ, h]; simp
theorem soFar_all {t : Train} {k : Nat} {r : List Boat} {j : Nat} (hr : t.Rows[k]? = some r) (h : r.length ≤ j) : soFar t k r j = heads t.Rows (k + 1) := by
  unfold soFar; rw [List.take_of_length_le h, heads_succ hr]
theorem soFar_len {t : Train} {k : Nat} {r : List Boat} {j : Nat} (h : j ≤ r.length) : (soFar t k r j).length = (heads t.Rows k).length + j := by
  unfold soFar; simp; omega
theorem TrainOk_impl (t : Train) (h : t.small) : PureF Tryz.prog n_impl_TrainOk [.agg (t.enc.map .c)] (.c (.b (TrainOk t))) := by
  refine pure_of h_impl_TrainOk (by simp) fun hwf => ?_
  simp -dsimp -implicitDefEqProofs [c_impl_TrainOk]
  intro hlen
  refine ⟨fun h0 _ => ⟨fun h1 => ?_, fun h1 _ => ?_⟩, fun h0 => ?_⟩
  · by_cases h2 : TrainOk t = false
    · exact h2
    · exfalso
      have h3 : TrainOk t = true := by simpa using h2
      simp only [TrainOk, Bool.and_eq_true, List.all_eq_true] at h3
      obtain ⟨⟨⟨h4, _⟩, _⟩, h5⟩ := h3
      have h6 := inRange_iff.1 h5
      have : ∀ l : List (List Boat), (∀ r ∈ l, full r = true) → l.length ≤ l.flatten.length := by
        intro l
        induction l with
        | nil => simp
        | cons r l ih =>
          intro hl
          have e1 := ih fun x hx => hl x (by simp [hx])
          have e2 := full_iff.1 (hl r (by simp))
          simp only [List.length_cons, List.flatten_cons, List.length_append]; omega
      have := this t.Rows h4
      unfold Train.boats at h6
      omega
  · refine loop_rule (ι := Nat) (fun k => k ≤ t.Rows.length ∧ (∀ r ∈ t.Rows.take k, full r = true) ∧ Met (heads t.Rows k)) (fun k => stOf [(3, .row 3 1 0 0), (4, .c (.i (heads t.Rows k).length)), (20, .c (.sl 1 (t.Rows.map enc_BoatS))), (21, .c (.i t.Rows.length)), (22, .c (.i k))] [(3, .row 1 (seenOf (heads t.Rows k)))]) (fun k => t.Rows.length - k) 0 ⟨by simp, by simp, by simp [heads_zero], by simp [heads_zero], by simp [heads_zero]⟩ (by apply le_of <;> simp [AV.refs1, AV.ref0, Obj.refs1, heads_zero, seen_nil]) ?_
    rintro k ⟨hk, hall, hm⟩
    rcases Nat.lt_or_ge k t.Rows.length with hlt | hge
    · obtain ⟨r, hr⟩ : ∃ r, t.Rows[k]? = some r := ⟨_, List.getElem?_eq_getElem hlt⟩
      have hml := hm.len
      have hrs := (h.2 r (List.mem_of_getElem? hr)).1
      obtain ⟨rest, hsp⟩ := boats_split hr
      simp -dsimp -implicitDefEqProofs [hr, lt_t hlt]
      intro hrl
      refine ⟨fun hr0 _ => ⟨by unfold inI; omega, fun h6 => ?_, fun h6 _ => ?_⟩, fun hr0 => ?_⟩
      · refine tf_len ?_
        rw [hsp]; simp only [List.length_append]; omega
      · refine loop_rule (ι := Nat) (fun j => j ≤ r.length ∧ Met (soFar t k r j)) (fun j => stOf [(3, .row 3 1 0 0), (4, .c (.i (soFar t k r j).length)), (20, .c (.sl 1 (t.Rows.map enc_BoatS))), (21, .c (.i t.Rows.length)), (22, .c (.i k)), (36, .c (.sl 6 (r.map Boat.enc))), (37, .c (.i r.length)), (38, .c (.i j))] [(3, .row 1 (seenOf (soFar t k r j)))]) (fun j => r.length - j) 0 ⟨by simp, by rw [soFar_zero]; exact hm⟩ (by apply le_of <;> simp [AV.refs1, AV.ref0, Obj.refs1, soFar_zero]) ?_
        rintro j ⟨hj, hmj⟩
        rcases Nat.lt_or_ge j r.length with hlt2 | hge2
        · obtain ⟨b, hb⟩ : ∃ b, r[j]? = some b := ⟨_, List.getElem?_eq_getElem hlt2⟩
          have hsl := soFar_len (t := t) (k := k) hj
          have hlt6 : (soFar t k r j).length < 6 := by omega
          have hmem : b ∈ t.boats := by
            rw [hsp]; simp only [List.mem_append]; exact .inl (.inr (List.mem_of_getElem? hb))
          simp -dsimp -implicitDefEqProofs [hb, lt_t hlt2]
          refine ⟨_, _, BoatOk_impl b, by simp, .inr rfl, ?_⟩
          simp -dsimp -implicitDefEqProofs
          refine ⟨fun h2 => ?_, fun h2 => tf_boat hmem h2⟩
          have hsn := seen_len hmj.len
          refine ⟨by omega, hsn, ?_⟩
          refine ⟨_, _, Contains_c ((soFar t k r j).map idOf) b.Id, by simp [seen_take], .inr rfl, ?_⟩
          simp -dsimp -implicitDefEqProofs [lt_t hlt2, seen_get hlt6, seen_set hlt6]
          refine ⟨fun x hx he => tf_ids fun hn => ?_, fun h3 => ?_⟩
          · have hsp2 : t.boats = soFar t k r j ++ (b :: (r.drop (j + 1) ++ rest)) := by
              rw [hsp]; unfold soFar
              have : r = r.take j ++ b :: r.drop (j + 1) := by
                conv => lhs; rw [← List.take_append_drop j r]
                rw [List.drop_eq_getElem_cons hlt2, (List.getElem?_eq_some_iff.1 hb).2]
              conv => lhs; rw [this]
              simp
            rw [hsp2, List.map_append, List.map_cons] at hn
            exact (List.nodup_append.1 hn).2.2 _ (List.mem_map_of_mem hx) _ (List.mem_cons_self) he
          · have hni : b.Id ∉ (soFar t k r j).map idOf := by
              intro hm'
              obtain ⟨x, hx, he⟩ := List.mem_map.1 hm'
              exact h3 x hx he
            have hs1 := soFar_succ (t := t) (k := k) hb
            refine ⟨by omega, by omega, by unfold inI; omega, by unfold inI; omega, j + 1, ⟨hlt2, by rw [hs1]; exact hmj.snoc h2 hni hlt6⟩, by omega, ?_⟩
            apply le_of <;> simp [AV.refs1, AV.ref0, Obj.refs1, hs1]
        · simp -dsimp -implicitDefEqProofs [lt_f hge2]
          rw [soFar_all hr hge2] at hmj
          refine ⟨by unfold inI; omega, k + 1, ⟨hlt, all_take_succ (p := full) hr hall (by simp [full, hr0]), hmj⟩, by omega, ?_⟩
          apply le_of <;> simp [AV.refs1, AV.ref0, Obj.refs1, soFar_all hr hge2]
      · exact tf_full hr (by simp [hr0])
    · simp -dsimp -implicitDefEqProofs [lt_f hge]
      rw [heads_all hge] at hm
      have hr1 := all_of_take (p := full) hge hall
      have hb1 : t.boats.all BoatOk = true := List.all_eq_true.2 hm.ok
      have hl1 : 0 < t.boats.length := by
        obtain ⟨r, l, e⟩ := List.exists_cons_of_ne_nil h0
        have := full_iff.1 (List.all_eq_true.1 hr1 r (by rw [e]; simp))
        unfold Train.boats
        rw [e]; simp only [List.flatten_cons, List.length_append]; omega
      have hl2 : t.boats.length ≤ 6 := hm.len
      have h7 : inRange t.boats.length 1 6 = true := inRange_iff.2 (by omega)
      have hn1 : (t.boats.map idOf).Nodup := hm.nd
      simp [TrainOk, hr1, hb1, hn1, h7]
  · have : t.boats = [] := by simp [Train.boats, h0]
    have h7 : inRange t.boats.length 1 6 = false := by rw [this]; rfl
    simp only [TrainOk, h7, Bool.and_false]
structure TrainFacts (t : Train) : Prop where
  rows : ∀ r ∈ t.Rows, full r = true
  ok : ∀ b ∈ t.boats, BoatOk b = true
  nd : (t.boats.map idOf).Nodup
  pos : 1 ≤ t.boats.length
  len : t.boats.length ≤ 6
theorem trainFacts {t : Train} (h : TrainOk t = true) : TrainFacts t := by
  simp only [TrainOk, Bool.and_eq_true, List.all_eq_true, decide_eq_true_eq] at h
  obtain ⟨⟨⟨h1, h2⟩, h3⟩, h4⟩ := h
  have h5 := inRange_iff.1 h4
  exact ⟨h1, h2, h3, by omega, by omega⟩
theorem boatsOf_c (t : Train) (h : t.small) : PureF Tryz.prog n_impl_boatsOf [.agg (t.enc.map .c)] (.c (.sl 6 (t.boats.map Boat.enc))) := by
  refine pure_of h_impl_boatsOf (by simp) fun hwf => ?_
  simp -dsimp -implicitDefEqProofs [c_impl_boatsOf]
  intro hlen
  refine virt_rule (k0 := 6) 3 6 (by simp) (by simp) (by decide) ?_
  refine loop_rule (ι := Nat) (fun k => k ≤ t.Rows.length) (fun k => stOf [(3, .own 3 6 (heads t.Rows k).length), (7, .c (.sl 1 (t.Rows.map enc_BoatS))), (8, .c (.i t.Rows.length)), (9, .c (.i k))] [(3, .row 6 ((heads t.Rows k).map Boat.enc))]) (fun k => t.Rows.length - k) 0 (by simp) (by apply le_of <;> simp [AV.refs1, AV.ref0, Obj.refs1, heads_zero]) ?_
  rintro k hk
  rcases Nat.lt_or_ge k t.Rows.length with hlt | hge
  · obtain ⟨r, hr⟩ : ∃ r, t.Rows[k]? = some r := ⟨_, List.getElem?_eq_getElem hlt⟩
    have hb := heads_bound h (k + 1)
    have hf := heads_succ hr
    rw [hf, List.length_append] at hb
    simp -dsimp -implicitDefEqProofs [hr, lt_t hlt]
    refine ⟨by omega, inI_succ hlt hlen, k + 1, hlt, by omega, ?_⟩
    apply le_of <;> simp [AV.refs1, AV.ref0, Obj.refs1, hf]
  · simp -dsimp -implicitDefEqProofs [lt_f hge]
    rw [heads_all hge]
    rw [List.take_of_length_le (by rw [List.length_map]; exact Nat.le_refl _)]; rfl
def sz_IntS (xs : List Int) (l : Int) : Int := szS xs.length l
def small_IntS : List Int → Prop := smallS fun _ => True
theorem sz_IntS_ok : SzOk sz_IntS small_IntS := szS_ok'
theorem sz_IntS_c (xs : List Int) (l : Int) (h0 : 0 ≤ l) (h1 : l ≤ 1048576) : PureF Tryz.prog n_laws_szIntS [.c (.sl 1 (xs.map ienc)), .c (.i l)] (.c (.i (sz_IntS xs l))) := szIntS_c xs l h0 h1
structure Point where
  X : Int
  Y : Int
  deriving DecidableEq, Inhabited
@[simp] def Point.enc (e : Point) : List C := [.i e.X, .i e.Y]
-- Point
theorem toPoint_c (e : Point) : PureF Tryz.prog n_laws_toPoint [.agg (e.enc.map .c)] (.agg (e.enc.map .c)) := by
  refine pure_of h_laws_toPoint (by simp) fun hwf => ?_
  simp -dsimp -implicitDefEqProofs [c_laws_toPoint]
theorem eqPoint_c (a b : Point) : PureF Tryz.prog n_laws_eqPoint [.agg (a.enc.map .c), .agg (b.enc.map .c)] (.c (.b (decide (a = b)))) := by
  refine pure_of h_laws_eqPoint (by simp) fun hwf => ?_
  obtain ⟨a0, a1⟩ := a
  obtain ⟨b0, b1⟩ := b
  simp -dsimp -implicitDefEqProofs [c_laws_eqPoint, Point.mk.injEq]
  refine ⟨fun h => by simp_all, fun h0 => ?_⟩
  refine ⟨fun h => by simp_all, fun h1 => ?_⟩
  simp_all
-- []Point
def sz_PointS (xs : List Point) (l : Int) : Int := szS xs.length l
def small_PointS : List Point → Prop := smallS fun _ => True
theorem sz_PointS_ok : SzOk sz_PointS small_PointS := szS_ok'
theorem sz_PointS_c (xs : List Point) (l : Int) (h0 : 0 ≤ l) (h1 : l ≤ 1048576) : PureF Tryz.prog n_laws_szPointS [.c (.sl 2 (xs.map Point.enc)), .c (.i l)] (.c (.i (sz_PointS xs l))) := by
  refine pure_of h_laws_szPointS (by simp) fun hwf => ?_
  simp -dsimp -implicitDefEqProofs [c_laws_szPointS, sz_PointS, szS]
  intro hl
  unfold maxLen at hl
  refine ⟨by unfold inI; omega, fun h => ?_, fun h => ?_⟩ <;> intros <;> omega
theorem toPointS_c (xs : List Point) (hl : small_PointS xs) : PureF Tryz.prog n_laws_toPointS [.c (.sl 2 (xs.map Point.enc))] (.c (.sl 2 (xs.map Point.enc))) := by
  refine pure_of h_laws_toPointS (by simp) fun hwf => ?_
  simp -dsimp -implicitDefEqProofs [c_laws_toPointS]
  intro hlen
  have hl1 := hl.1
  refine ⟨by omega, ?_⟩
  refine loop_rule (ι := Nat) (fun k => k ≤ xs.length) (fun k => stOf [(0, .c (.sl 2 (xs.map Point.enc))), (3, .own 7 2 xs.length), (4, .c (.i k))] [(7, .row 2 (partly Point.enc [.i 0, .i 0] xs k))]) (fun k => xs.length - k) 0 (by simp) (by apply le_of <;> simp [AV.refs1, AV.ref0, Obj.refs1, partly_zero]) ?_
  rintro k hk
  rcases Nat.lt_or_ge k xs.length with hlt | hge
  · obtain ⟨e, he⟩ : ∃ e, xs[k]? = some e := ⟨_, List.getElem?_eq_getElem hlt⟩
    have hs := partly_set (f := Point.enc) (z := [.i 0, .i 0]) he
    have hd := partly_drop (f := Point.enc) (z := [.i 0, .i 0]) (n := 2) rfl hlt
    simp only [Point.enc] at hs
    simp -dsimp -implicitDefEqProofs [he, lt_t hlt]
    refine fun _ => call_pure (toPoint_c e ) (by simp) rfl ?_
    simp -dsimp -implicitDefEqProofs [lt_t hlt, partly_len hk, hd, hs]
    exact ⟨hlt, inI_succ hlt hlen, k + 1, hlt, by omega, by apply le_of <;> simp [AV.refs1, AV.ref0, Obj.refs1]⟩
  · simp -dsimp -implicitDefEqProofs [lt_f hge]
    intro _
    rw [partly_all hge, List.take_of_length_le (by simp)]
theorem eqPointS_c (es fs : List Point) : PureF Tryz.prog n_laws_eqPointS [.c (.sl 2 (es.map Point.enc)), .c (.sl 2 (fs.map Point.enc))] (.c (.b (decide (es = fs)))) := by
  refine pure_of h_laws_eqPointS (by simp) fun hwf => ?_
  simp -dsimp -implicitDefEqProofs [c_laws_eqPointS]
  intro hl1 hl2
  refine ⟨fun h e => h (by rw [e]), fun hlen => ?_⟩
  have hlen' : es.length = fs.length := by omega
  refine loop_rule (ι := Nat) (fun k => k ≤ es.length ∧ es.take k = fs.take k) (fun k => stOf [(0, .c (.sl 2 (es.map Point.enc))), (1, .c (.sl 2 (fs.map Point.enc))), (5, .c (.i k))] []) (fun k => es.length - k) 0 (by simp) (by apply le_of <;> simp [AV.refs1, AV.ref0, Obj.refs1]) ?_
  rintro k ⟨hk, htk⟩
  rcases Nat.lt_or_ge k es.length with hlt | hge
  · obtain ⟨e, he⟩ : ∃ e, es[k]? = some e := ⟨_, List.getElem?_eq_getElem hlt⟩
    obtain ⟨f, hf⟩ : ∃ f, fs[k]? = some f := ⟨_, List.getElem?_eq_getElem (by omega)⟩
    simp -dsimp -implicitDefEqProofs [he, hf, lt_t hlt, lt_t (hlen' ▸ hlt)]
    intro _
    refine ⟨_, _, eqPoint_c e f, by simp, .inr rfl, ?_⟩
    simp -dsimp -implicitDefEqProofs
    refine ⟨fun h => ne_of_get he hf h, fun h => ⟨inI_succ hlt hl1, k + 1, ⟨hlt, take_eq_succ he hf htk h⟩, by omega, by apply le_of <;> simp [AV.refs1, AV.ref0, Obj.refs1]⟩⟩
  · simp -dsimp -implicitDefEqProofs [lt_f hge]
    intro _
    exact eq_of_take hge hlen' htk
structure Reach where
  Table : List Point
  Volume : Int
  Pipe : List Int
  deriving DecidableEq, Inhabited
@[simp] def Reach.enc (e : Reach) : List C := [.sl 2 (e.Table.map Point.enc), .i e.Volume, .sl 1 (e.Pipe.map ienc)]
-- Reach
def sz_Reach (e : Reach) (l : Int) : Int := andSz (sz_PointS e.Table l) fun l => andSz (sz_IntS e.Pipe l) fun l => l
def Reach.small (e : Reach) : Prop := small_PointS e.Table ∧ small_IntS e.Pipe
theorem sz_Reach_ok : SzOk sz_Reach Reach.small := by
  intro e l h0 h1
  unfold sz_Reach
  rcases sz_PointS_ok e.Table _ h0 h1 with e0 | ⟨a0, b0, s0⟩
  · exact .inl (andSz_neg (by omega))
  rw [andSz_pos a0]
  rcases sz_IntS_ok e.Pipe _ a0 (by omega) with e1 | ⟨a1, b1, s1⟩
  · exact .inl (andSz_neg (by omega))
  rw [andSz_pos a1]
  exact .inr ⟨a1, by omega, s0, s1⟩
theorem sz_Reach_c (e : Reach) (l : Int) (h0 : 0 ≤ l) (h1 : l ≤ 1048576) : PureF Tryz.prog n_laws_szReach [.agg (e.enc.map .c), .c (.i l)] (.c (.i (sz_Reach e l))) := by
  refine pure_of h_laws_szReach (by simp) fun hwf => ?_
  simp -dsimp -implicitDefEqProofs [c_laws_szReach]
  refine call_lend (sz_PointS_c e.Table _ h0 h1) (by simp) rfl ?_
  simp -dsimp -implicitDefEqProofs
  refine ⟨fun h => by simp [sz_Reach, andSz_neg h], fun p0 => ?_⟩
  have q0 := sz_le sz_PointS_ok e.Table h0 h1 p0
  refine call_lend (sz_IntS_c e.Pipe _ p0 q0) (by simp) rfl ?_
  simp -dsimp -implicitDefEqProofs
  refine ⟨fun h => by simp [sz_Reach, andSz_pos p0, andSz_neg h], fun p1 => ?_⟩
  simp [sz_Reach, andSz_pos p0, andSz_pos p1]
theorem toReach_c (e : Reach) (hl : Reach.small e) : PureF Tryz.prog n_laws_toReach [.agg (e.enc.map .c)] (.agg (e.enc.map .c)) := by
  refine pure_of h_laws_toReach (by simp) fun hwf => ?_
  simp -dsimp -implicitDefEqProofs [c_laws_toReach]
  first
    | refine call_pure (toPointS_c e.Table (hl.1)) (by simp) rfl ?_
    | refine ⟨_, _, toPointS_c e.Table (hl.1), by simp, .inl rfl, ?_⟩
  simp -dsimp -implicitDefEqProofs
  first
    | refine call_pure (toIntS_c e.Pipe (hl.2.1)) (by simp) rfl ?_
    | refine ⟨_, _, toIntS_c e.Pipe (hl.2.1), by simp, .inl rfl, ?_⟩
  simp -dsimp -implicitDefEqProofs
theorem eqReach_c (a b : Reach) : PureF Tryz.prog n_laws_eqReach [.agg (a.enc.map .c), .agg (b.enc.map .c)] (.c (.b (decide (a = b)))) := by
  refine pure_of h_laws_eqReach (by simp) fun hwf => ?_
  obtain ⟨a0, a1, a2⟩ := a
  obtain ⟨b0, b1, b2⟩ := b
  simp -dsimp -implicitDefEqProofs [c_laws_eqReach, Reach.mk.injEq]
  first
    | refine call_lend (eqPointS_c a0 b0) (by simp) rfl ?_
    | refine ⟨_, _, eqPointS_c a0 b0, by simp, .inr rfl, ?_⟩
  simp -dsimp -implicitDefEqProofs
  refine ⟨fun h => by simp_all, fun h0 => ?_⟩
  refine ⟨fun h => by simp_all, fun h1 => ?_⟩
  first
    | refine call_lend (eqIntS_c a2 b2) (by simp) rfl ?_
    | refine ⟨_, _, eqIntS_c a2 b2, by simp, .inr rfl, ?_⟩
  simp -dsimp -implicitDefEqProofs
  refine ⟨fun h => by simp_all, fun h2 => ?_⟩
  simp_all
theorem toPointS_o (xs : List Point) (hl : small_PointS xs) : OwnF Tryz.prog n_laws_toPointS [.c (.sl 2 (xs.map Point.enc))] (.c (.ow 2 (xs.map Point.enc))) := by
  refine own_of h_laws_toPointS (by simp) fun hwf => ?_
  simp -dsimp -implicitDefEqProofs [c_laws_toPointS]
  intro hlen
  have hl1 := hl.1
  refine ⟨by omega, ?_⟩
  refine loop_rule (ι := Nat) (fun k => k ≤ xs.length) (fun k => stOf [(0, .c (.sl 2 (xs.map Point.enc))), (3, .own 7 2 xs.length), (4, .c (.i k))] [(7, .row 2 (partly Point.enc [.i 0, .i 0] xs k))]) (fun k => xs.length - k) 0 (by simp) (by apply le_of <;> simp [AV.refs1, AV.ref0, Obj.refs1, partly_zero]) ?_
  rintro k hk
  rcases Nat.lt_or_ge k xs.length with hlt | hge
  · obtain ⟨e, he⟩ : ∃ e, xs[k]? = some e := ⟨_, List.getElem?_eq_getElem hlt⟩
    have hs := partly_set (f := Point.enc) (z := [.i 0, .i 0]) he
    have hd := partly_drop (f := Point.enc) (z := [.i 0, .i 0]) (n := 2) rfl hlt
    simp only [Point.enc] at hs
    simp -dsimp -implicitDefEqProofs [he, lt_t hlt]
    refine fun _ => call_pure (toPoint_c e ) (by simp) rfl ?_
    simp -dsimp -implicitDefEqProofs [lt_t hlt, partly_len hk, hd, hs]
    exact ⟨hlt, inI_succ hlt hlen, k + 1, hlt, by omega, by apply le_of <;> simp [AV.refs1, AV.ref0, Obj.refs1]⟩
  · simp -dsimp -implicitDefEqProofs [lt_f hge]
    intro _
    rw [partly_all hge, List.take_of_length_le (by simp)]
@[simp] def Mover.oenc (e : Mover) : List C := [.b e.Train.Up, .ot 1 (e.Train.Rows.map eo_BoatS), .i e.Place]
theorem Mover.oenc_shr (e : Mover) : shrl e.oenc = some e.enc := by simp [Mover.oenc, shrl, cshr_ot eo_BoatS_shr]
theorem toMover_o (e : Mover) (hl : Mover.small e) : OwnF Tryz.prog n_laws_toMover [.agg (e.enc.map .c)] (.agg (e.oenc.map .c)) := by
  refine own_of h_laws_toMover (by simp) fun hwf => ?_
  simp -dsimp -implicitDefEqProofs [c_laws_toMover]
  refine call_own (toTrain_o e.Train hl) (by simp) (by simp [AV.closed, AV.closed1, C.closed, eo_BoatS]) (by simp [freshO]) ?_
  simp -dsimp -implicitDefEqProofs [take_full]
theorem toMoverS_o (xs : List Mover) (hl : xs.length ≤ 1048576 ∧ ∀ x ∈ xs, x.small) : OwnF Tryz.prog n_laws_toMoverS [.c (.sl 3 (xs.map Mover.enc))] (.c (.ot 3 (xs.map Mover.oenc))) := by
  refine own_of h_laws_toMoverS (by simp) fun hwf => ?_
  simp -dsimp -implicitDefEqProofs [c_laws_toMoverS]
  intro hlen
  have hl1 := hl.1
  refine ⟨by omega, ?_⟩
  refine loop_rule (ι := Nat) (fun k => k ≤ xs.length) (fun k => stOf [(0, .c (.sl 3 (xs.map Mover.enc))), (3, .own 7 3 xs.length), (4, .c (.i k))] [(7, .tr 3 0 (partly Mover.oenc [.b false, .sl 1 [], .i 0] xs k))]) (fun k => xs.length - k) 0 (by simp) (by apply le_of <;> simp [AV.refs1, AV.ref0, Obj.refs1, partly_zero, Obj.leO]) ?_
  rintro k hk
  rcases Nat.lt_or_ge k xs.length with hlt | hge
  · obtain ⟨e, he⟩ : ∃ e, xs[k]? = some e := ⟨_, List.getElem?_eq_getElem hlt⟩
    have hs := partly_set (f := Mover.oenc) (z := [.b false, .sl 1 [], .i 0]) he
    have hd := partly_drop (f := Mover.oenc) (z := [.b false, .sl 1 [], .i 0]) (n := 3) rfl hlt
    simp only [Mover.oenc] at hs
    simp -dsimp -implicitDefEqProofs [he, lt_t hlt]
    intro _
    refine call_own (toMover_o e (hl.2 e (List.mem_of_getElem? he))) (by simp) (by simp [AV.closed, AV.closed1, C.closed, eo_BoatS]) (by simp [freshO]) ?_
    simp -dsimp -implicitDefEqProofs [lt_t hlt, partly_len hk, take_full, hd, hs]
    exact ⟨hlt, inI_succ hlt hlen, k + 1, hlt, by omega, by apply le_of <;> simp [AV.refs1, AV.ref0, Obj.refs1, Obj.leO]⟩
  · simp -dsimp -implicitDefEqProofs [lt_f hge]
    intro _
    rw [partly_all hge, take_full]
def mkP (k : Int) : List C := [.i k, .i (k + 1)]
theorem markPointS_c (xs : List Point) (k : Int) (h0 : 0 ≤ k) (h1 : k + 2 * xs.length ≤ 8000000000000000000) :
    InF Tryz.prog n_laws_markPointS (.c (cw 2 (xs.map Point.enc))) (.c (cw 2 (marked mkP 2 [] k xs.length))) [.c (.i k)] (.c (.i (k + 2 * xs.length))) := by
  rcases Nat.eq_zero_or_pos xs.length with hx | hx
  · have : xs = [] := List.length_eq_zero_iff.1 hx
    subst this
    refine in_of h_laws_markPointS (by simp) (by simp) rfl fun hwf => ?_
    simp -dsimp -implicitDefEqProofs [c_laws_markPointS, marked]
    refine loop_rule (ι := Unit) (fun _ => True) (fun _ => stOf [(0, .c (.sl 2 [])), (1, .c (.i k)), (5, .c (.i 0)), (1000000, .c (.sl 2 []))] []) (fun _ => 0) () trivial (by apply le_of <;> simp [AV.refs1, AV.ref0, Obj.refs1]) ?_
    rintro _ _
    simp -dsimp -implicitDefEqProofs
  · rw [cw_pos (by simpa using hx), cw_pos (by rw [marked_n]; exact hx)]
    refine in_of h_laws_markPointS (by simp) (by simp) rfl fun hwf => ?_
    simp -dsimp -implicitDefEqProofs [c_laws_markPointS]
    refine loop_rule (ι := Nat) (fun i => i ≤ xs.length) (fun i => stOf [(0, .own 0 2 xs.length), (1, .c (.i (k + 2 * i))), (5, .c (.i i)), (1000000, .own 0 2 xs.length)] [(0, .row 2 (marked mkP 2 (xs.map Point.enc) k i))]) (fun i => xs.length - i) 0 (by simp) (by apply le_of <;> simp [AV.refs1, AV.ref0, Obj.refs1, marked_zero]) ?_
    rintro i hi
    rcases Nat.lt_or_ge i xs.length with hlt | hge
    · obtain ⟨e, he⟩ : ∃ e, xs[i]? = some e := ⟨_, List.getElem?_eq_getElem hlt⟩
      have hg := marked_get (mk := mkP) (c := 2) (k := k) (rows := xs.map Point.enc) (i := i) (r := e.enc) (by simp [he])
      have hl := marked_len (mk := mkP) (c := 2) (k := k) (rows := xs.map Point.enc) (i := i) (by simpa using hi)
      have hs := marked_set (mk := mkP) (c := 2) (k := k) (rows := xs.map Point.enc) (i := i) (by simpa using hlt)
      rw [List.length_map] at hl
      generalize marked mkP 2 (xs.map Point.enc) k i = M at *
      have hlt2 : i < M.length := by omega
      have hself : ∀ a, (M.set i a)[i]? = some a := fun a => List.getElem?_set_self hlt2
      simp only [mkP] at hs
      simp only [Point.enc] at hg
      simp -dsimp -implicitDefEqProofs [lt_t hlt, hg, hl, hlt2, hself]
      intro hlen
      refine ⟨hlt, by unfold inI; omega, hlt, by unfold inI; omega, by unfold inI; omega, i + 1, hlt, by omega, ?_⟩
      apply le_of <;> simp [AV.refs1, AV.ref0, Obj.refs1, hs, hself] <;> omega
    · have : i = xs.length := by omega
      subst this
      simp -dsimp -implicitDefEqProofs
      intro _
      have e := marked_all (mk := mkP) (c := 2) (rows := xs.map Point.enc) (k := k) (i := xs.length) (by simp)
      rw [e, List.length_map, List.take_of_length_le (by rw [marked_n]; exact Nat.le_refl _)]
@[simp] def Reach.oenc (e : Reach) : List C := [.ow 2 (e.Table.map Point.enc), .i e.Volume, .ow 1 (e.Pipe.map ienc)]
theorem Reach.oenc_shr (e : Reach) : shrl e.oenc = some e.enc := by simp [Reach.oenc, shrl, C.shr]
theorem toReach_o (e : Reach) (hl : Reach.small e) : OwnF Tryz.prog n_laws_toReach [.agg (e.enc.map .c)] (.agg (e.oenc.map .c)) := by
  refine own_of h_laws_toReach (by simp) fun hwf => ?_
  simp -dsimp -implicitDefEqProofs [c_laws_toReach]
  first
    | refine call_own (toPointS_o e.Table hl.1) (by simp ) (by simp [AV.closed, AV.closed1, C.closed]) (by simp [freshO]) ?_
    | refine callE_own (toPointS_o e.Table hl.1) (by simp ) (by simp [AV.closed, AV.closed1, C.closed]) (by simp [freshO]) ?_
  simp -dsimp -implicitDefEqProofs [take_full]
  first
    | refine call_own (toIntS_o e.Pipe hl.2.1) (by simp ) (by simp [AV.closed, AV.closed1, C.closed]) (by simp [freshO]) ?_
    | refine callE_own (toIntS_o e.Pipe hl.2.1) (by simp ) (by simp [AV.closed, AV.closed1, C.closed]) (by simp [freshO]) ?_
  simp -dsimp -implicitDefEqProofs [take_full]
def Reach.cenc (e : Reach) : List C := [cw 2 (e.Table.map Point.enc), .i e.Volume, cw 1 (e.Pipe.map ienc)]
def fM (k : Int) (e : Mover) : List C := [.b (decide (k.tmod 3 = 0)), .ot 1 (seqM fB nB (k + 1) e.Train.Rows), .i (k + 1 + cnt nB e.Train.Rows)]
def nM (e : Mover) : Nat := 1 + cnt nB e.Train.Rows + 1
theorem markMoverS_c (xs : List Mover) (k : Int) (h0 : 0 ≤ k) (h1 : k + cnt nM xs ≤ 8000000000000000000) :
    InF Tryz.prog n_laws_markMoverS (.c (ct 3 (xs.map Mover.oenc))) (.c (ct 3 (seqM fM nM k xs))) [.c (.i k)] (.c (.i (k + cnt nM xs))) := by
  rcases Nat.eq_zero_or_pos xs.length with hx | hx
  · have : xs = [] := List.length_eq_zero_iff.1 hx
    subst this
    refine in_of h_laws_markMoverS (by simp) (by simp) rfl fun hwf => ?_
    simp -dsimp -implicitDefEqProofs [c_laws_markMoverS, seqM, cnt]
    refine loop_rule (ι := Unit) (fun _ => True) (fun _ => stOf [(0, .c (.sl 3 [])), (1, .c (.i k)), (5, .c (.i 0)), (1000000, .c (.sl 3 []))] []) (fun _ => 0) () trivial (by apply le_of <;> simp [AV.refs1, AV.ref0, Obj.refs1]) ?_
    rintro _ _
    simp -dsimp -implicitDefEqProofs
  · rw [ct_pos (by simpa using hx), ct_pos (by rw [seqM_len]; exact hx)]
    refine in_of h_laws_markMoverS (by simp) (by simp) rfl fun hwf => ?_
    simp -dsimp -implicitDefEqProofs [c_laws_markMoverS]
    refine loop_rule (ι := Nat) (fun i => i ≤ xs.length) (fun i => stOf [(0, .own 0 3 xs.length), (1, .c (.i (k + cntTo nM xs i))), (5, .c (.i i)), (1000000, .own 0 3 xs.length)] [(0, .tr 3 0 (seqTo fM Mover.oenc nM k xs i))]) (fun i => xs.length - i) 0 (by simp) (by apply le_of <;> simp [AV.refs1, AV.ref0, Obj.refs1, seqTo_zero, cntTo_zero, Obj.leO]) ?_
    rintro i hi
    rcases Nat.lt_or_ge i xs.length with hlt | hge
    · obtain ⟨e, he⟩ : ∃ e, xs[i]? = some e := ⟨_, List.getElem?_eq_getElem hlt⟩
      have hg := seqTo_get (f := fM) (g := Mover.oenc) (n := nM) (k := k) he
      have hl := seqTo_len (f := fM) (g := Mover.oenc) (n := nM) (k := k) (xs := xs) (i := i)
      have hs := seqTo_set (f := fM) (g := Mover.oenc) (n := nM) (k := k) he
      have hc := cntTo_succ (n := nM) he
      have hle := cntTo_le (n := nM) (xs := xs) (i := i + 1)
      have hn : nM e = 1 + cnt nB e.Train.Rows + 1 := rfl
      generalize hM : seqTo fM Mover.oenc nM k xs i = M at *
      have hlt2 : i < M.length := by omega
      have g1 : M[i] = e.oenc := (List.getElem?_eq_some_iff.1 hg).2
      have hself : ∀ a, (M.set i a)[i]? = some a := fun a => List.getElem?_set_self hlt2
      simp only [Mover.oenc] at hg g1
      simp -dsimp -implicitDefEqProofs [lt_t hlt, hg, hl, hlt2, g1, hself, setAt]
      intro hlen
      have hk : 0 ≤ k + cntTo nM xs i := by omega
      have c1 : C.ot 1 (e.Train.Rows.map eo_BoatS) = C.ot 1 (e.Train.Rows.map eo_BoatS) := rfl
      refine ⟨by have := Int.tmod_nonneg 3 hk; have := Int.tmod_lt_of_pos (k + cntTo nM xs i) (b := 3) (by omega); unfold inI; omega, hlt, by unfold inI; omega, hlt, ?_⟩
      refine call_inSub (k0 := 3) (ver := 1) (j := 1) (i := (i : Int)) (r := [.b (decide ((k + cntTo nM xs i).tmod 3 = 0)), .ot 1 (e.Train.Rows.map eo_BoatS), .i e.Place]) (c := .ot 1 (e.Train.Rows.map eo_BoatS)) (c' := .ot 1 (seqM fB nB (k + cntTo nM xs i + 1) e.Train.Rows)) (markBoatSS_c e.Train.Rows (k + cntTo nM xs i + 1) (by omega) (by omega)) (by simp) rfl rfl rfl (by simpa using hself _) rfl ⟨_, by rw [seqM_len]; simp, rfl, rfl, rfl⟩ (by simp [C.sz]) ?_
      simp -dsimp -implicitDefEqProofs [setAt, hself, hlt2, hl]
      refine ⟨hlt, by unfold inI; omega, inI_succ hlt hlen, i + 1, hlt, by omega, ?_⟩
      simp only [fM] at hs
      apply le_of <;> simp [AV.refs1, AV.ref0, Obj.refs1, Obj.leO, hs] <;> omega
    · have : i = xs.length := by omega
      subst this
      simp -dsimp -implicitDefEqProofs
      intro _
      rw [seqTo_all (Nat.le_refl _), cntTo_all (Nat.le_refl _), List.take_of_length_le (by rw [seqM_len]; exact Nat.le_refl _)]
      exact ⟨rfl, rfl⟩
def sz_Tariff (e : Tariff) (l : Int) : Int := andSz (sz_IntS e.PerClass l) fun l => andSz (sz_IntS e.Weights l) fun l => l
theorem sz_Tariff_ok : SzOk sz_Tariff Tariff.small := by
  intro e l h0 h1
  unfold sz_Tariff
  rcases sz_IntS_ok e.PerClass _ h0 h1 with e0 | ⟨a0, b0, s0⟩
  · exact .inl (andSz_neg (by omega))
  rw [andSz_pos a0]
  rcases sz_IntS_ok e.Weights _ a0 (by omega) with e1 | ⟨a1, b1, s1⟩
  · exact .inl (andSz_neg (by omega))
  rw [andSz_pos a1]
  exact .inr ⟨a1, by omega, s0.1, s1.1⟩
theorem sz_Tariff_c (e : Tariff) (l : Int) (h0 : 0 ≤ l) (h1 : l ≤ 1048576) : PureF Tryz.prog n_laws_szTariff [.agg (e.enc.map .c), .c (.i l)] (.c (.i (sz_Tariff e l))) := by
  refine pure_of h_laws_szTariff (by simp) fun hwf => ?_
  simp -dsimp -implicitDefEqProofs [c_laws_szTariff]
  refine call_lend (sz_IntS_c e.PerClass _ h0 h1) (by simp) rfl ?_
  simp -dsimp -implicitDefEqProofs
  refine ⟨fun h => by simp [sz_Tariff, andSz_neg h], fun p0 => ?_⟩
  have q0 := sz_le sz_IntS_ok e.PerClass h0 h1 p0
  refine call_lend (sz_IntS_c e.Weights _ p0 q0) (by simp) rfl ?_
  simp -dsimp -implicitDefEqProofs
  refine ⟨fun h => by simp [sz_Tariff, andSz_pos p0, andSz_neg h], fun p1 => ?_⟩
  simp [sz_Tariff, andSz_pos p0, andSz_pos p1]
theorem take_all0 {α β : Type} {f : α → β} {l : List α} : (l.map f).take l.length = l.map f := List.take_of_length_le (by simp)
def IdsOf (t : Train) : List Int := if TrainOk t then t.boats.map idOf else []
def idsTo2 (t : Train) (k : Nat) : List Int := (t.boats.take k).map idOf
theorem idsTo2_zero {t : Train} : idsTo2 t 0 = [] := rfl
theorem idsTo2_succ {t : Train} {k : Nat} {b : Boat} (h : t.boats[k]? = some b) : idsTo2 t (k + 1) = idsTo2 t k ++ [b.Id] := by
  unfold idsTo2; rw [List.take_succ, h, List.map_append]; rfl
theorem idsTo2_all {t : Train} {k : Nat} (h : t.boats.length ≤ k) : idsTo2 t k = t.boats.map idOf := by
  unfold idsTo2; rw [List.take_of_length_le h]
theorem idsTo2_len {t : Train} {k : Nat} (h : k ≤ t.boats.length) : (idsTo2 t k).length = k := by
  unfold idsTo2; simp; omega
theorem IdsOf_implP (t : Train) (h : t.small) : PureF Tryz.prog n_impl_IdsOf [.agg (t.enc.map .c)] (.c (.sl 1 ((IdsOf t).map ienc))) := by
  refine pure_of h_impl_IdsOf (by simp) fun hwf => ?_
  simp -dsimp -implicitDefEqProofs [c_impl_IdsOf]
  first
    | refine call_lend (TrainOk_impl t h) (by simp) rfl ?_
    | refine call_pure (TrainOk_impl t h) (by simp) rfl ?_
    | refine ⟨_, _, TrainOk_impl t h, by simp, .inr rfl, ?_⟩
    | refine ⟨_, _, TrainOk_impl t h, by simp, .inl rfl, ?_⟩
    | refine callE_pure (TrainOk_impl t h) (by simp) (.inr rfl) ?_
    | refine callE_pure (TrainOk_impl t h) (by simp) (.inl rfl) ?_
  cases h1 : TrainOk t with
  | false => simp -dsimp -implicitDefEqProofs; simp [IdsOf, h1]
  | true =>
    have tf := trainFacts h1
    have h6 := tf.len
    simp -dsimp -implicitDefEqProofs
    first
      | refine call_lend (boatsOf_c t h) (by simp) rfl ?_
      | refine call_pure (boatsOf_c t h) (by simp) rfl ?_
      | refine ⟨_, _, boatsOf_c t h, by simp, .inr rfl, ?_⟩
      | refine ⟨_, _, boatsOf_c t h, by simp, .inl rfl, ?_⟩
      | refine callE_pure (boatsOf_c t h) (by simp) (.inr rfl) ?_
      | refine callE_pure (boatsOf_c t h) (by simp) (.inl rfl) ?_
    simp -dsimp -implicitDefEqProofs
    intro hlen
    refine virt_rule (k0 := 1) 3 1 (by simp) (by simp) (by decide) ?_
    refine loop_rule (ι := Nat) (fun k => k ≤ t.boats.length) (fun k => stOf [(3, .own 3 1 (idsTo2 t k).length), (10, .c (.sl 6 (t.boats.map Boat.enc))), (11, .c (.i t.boats.length)), (12, .c (.i k))] [(3, .row 1 ((idsTo2 t k).map ienc))]) (fun k => t.boats.length - k) 0 (by simp) (by apply le_of <;> simp [AV.refs1, AV.ref0, Obj.refs1, idsTo2_zero]) ?_
    rintro k hk
    have hkl := idsTo2_len hk
    rcases Nat.lt_or_ge k t.boats.length with hlt | hge
    · obtain ⟨b, hb⟩ : ∃ b, t.boats[k]? = some b := ⟨_, List.getElem?_eq_getElem hlt⟩
      simp -dsimp -implicitDefEqProofs [hb, lt_t hlt]
      refine ⟨by omega, inI_succ hlt hlen, k + 1, hlt, by omega, ?_⟩
      apply le_of <;> simp [AV.refs1, AV.ref0, Obj.refs1, idsTo2_succ hb]
    · simp -dsimp -implicitDefEqProofs [lt_f hge]
      rw [take_all0, idsTo2_all hge]
      simp [IdsOf, h1]
theorem IdsOf_spec (t : Train) (h : t.small) : PureF Tryz.prog n_spec_IdsOf [.agg (t.enc.map .c)] (.c (.sl 1 ((IdsOf t).map ienc))) := by
  refine pure_of h_spec_IdsOf (by simp) fun hwf => ?_
  simp -dsimp -implicitDefEqProofs [c_spec_IdsOf]
  first
    | refine call_lend (l04Boats_c t h) (by simp) rfl ?_
    | refine call_pure (l04Boats_c t h) (by simp) rfl ?_
    | refine ⟨_, _, l04Boats_c t h, by simp, .inr rfl, ?_⟩
    | refine ⟨_, _, l04Boats_c t h, by simp, .inl rfl, ?_⟩
    | refine callE_pure (l04Boats_c t h) (by simp) (.inr rfl) ?_
    | refine callE_pure (l04Boats_c t h) (by simp) (.inl rfl) ?_
  simp -dsimp -implicitDefEqProofs
  refine loop_rule (ι := Nat) (fun k => k ≤ t.boats.length ∧ (k ≠ 0 → TrainOk t = true)) (fun k => stOf [(1, .box 1 0), (3, .own 6 1 (idsTo2 t k).length), (4, .c (.sl 6 (t.boats.map Boat.enc))), (5, .c (.i k))] [(1, .box (t.enc.map .c)), (6, .row 1 ((idsTo2 t k).map ienc))]) (fun k => t.boats.length - k) 0 (by simp) (by apply le_of <;> simp [AV.refs1, AV.ref0, Obj.refs1, idsTo2_zero]) ?_
  rintro k ⟨hk, hok⟩
  have hkl := idsTo2_len hk
  have fin : TrainOk t = false → k = 0 := fun h1 => by
    rcases Nat.eq_zero_or_pos k with e | e
    · exact e
    · rw [hok (by omega)] at h1; cases h1
  rcases Nat.lt_or_ge k t.boats.length with hlt | hge
  · obtain ⟨b, hb⟩ : ∃ b, t.boats[k]? = some b := ⟨_, List.getElem?_eq_getElem hlt⟩
    simp -dsimp -implicitDefEqProofs [hb, lt_t hlt]
    intro hlen
    first
      | refine call_lend (TrainOk_spec t h) (by simp) rfl ?_
      | refine call_pure (TrainOk_spec t h) (by simp) rfl ?_
      | refine ⟨_, _, TrainOk_spec t h, by simp, .inr rfl, ?_⟩
      | refine ⟨_, _, TrainOk_spec t h, by simp, .inl rfl, ?_⟩
      | refine callE_pure (TrainOk_spec t h) (by simp) (.inr rfl) ?_
      | refine callE_pure (TrainOk_spec t h) (by simp) (.inl rfl) ?_
    cases h1 : TrainOk t with
    | false =>
      have := fin h1
      subst this
      simp -dsimp -implicitDefEqProofs
      simp [IdsOf, h1, idsTo2_zero]
    | true =>
      have h6 := (trainFacts h1).len
      simp -dsimp -implicitDefEqProofs [hb, lt_t hlt]
      refine ⟨by omega, inI_succ hlt hlen, k + 1, by first | exact ⟨hlt, fun _ => h1⟩ | exact hlt, by omega, ?_⟩
      apply le_of <;> simp [AV.refs1, AV.ref0, Obj.refs1, idsTo2_succ hb]
  · simp -dsimp -implicitDefEqProofs [lt_f hge]
    intro _
    rw [take_all0]
    by_cases h1 : TrainOk t = true
    · rw [idsTo2_all hge]; simp [IdsOf, h1]
    · have := fin (by simpa using h1)
      subst this
      simp [IdsOf, h1, idsTo2_zero]
def sz_TrainS : List Train → Int → Int := szSS sz_Train
def small_TrainS : List Train → Prop := smallS Train.small
theorem sz_TrainS_ok : SzOk sz_TrainS small_TrainS := szSS_ok sz_Train_ok
theorem sz_TrainS_c (xs : List Train) (l : Int) (h0 : 0 ≤ l) (h1 : l ≤ 1048576) : PureF Tryz.prog n_laws_szTrainS [.c (.sl 2 (xs.map Train.enc)), .c (.i l)] (.c (.i (sz_TrainS xs l))) := by
  refine pure_of h_laws_szTrainS (by simp) fun hwf => ?_
  simp -dsimp -implicitDefEqProofs [c_laws_szTrainS]
  intro hl
  have hs : szS xs.length l = if l - xs.length < 0 then -1 else l - xs.length := rfl
  refine ⟨by unfold maxLen at hl; unfold inI; omega, fun h => ?_, fun h => ?_⟩
  · simp [sz_TrainS, szSS, andSz, hs, h]
  have h' : 0 ≤ l - xs.length := by omega
  have e0 : sz_TrainS xs l = foldSz sz_Train xs (l - xs.length) := by
    have : szS xs.length l = l - xs.length := by rw [hs, if_neg (by omega)]
    simp only [sz_TrainS, szSS]
    rw [this, andSz_pos h']
  refine loop_rule (ι := Nat × Int) (fun p => p.1 ≤ xs.length ∧ 0 ≤ p.2 ∧ p.2 ≤ 1048576 ∧ foldSz sz_Train (xs.drop p.1) p.2 = sz_TrainS xs l) (fun p => stOf [(0, .c (.sl 2 (xs.map Train.enc))), (1, .c (.i p.2)), (5, .c (.i p.1))] []) (fun p => xs.length - p.1) (0, l - xs.length) ⟨by simp, h', by simp only; omega, by simp [e0]⟩ (by apply le_of <;> simp [AV.refs1, AV.ref0, Obj.refs1]) ?_
  rintro ⟨k, q⟩ ⟨hk, hq0, hq1, hf⟩
  simp only at hk hq0 hq1 hf
  rcases Nat.lt_or_ge k xs.length with hlt | hge
  · obtain ⟨e, he⟩ : ∃ e, xs[k]? = some e := ⟨_, List.getElem?_eq_getElem hlt⟩
    have hd : xs.drop k = e :: xs.drop (k + 1) := by
      rw [List.drop_eq_getElem_cons hlt, (List.getElem?_eq_some_iff.1 he).2]
    rw [hd, foldSz] at hf
    simp -dsimp -implicitDefEqProofs [he, lt_t hlt]
    refine fun _ => call_lend (sz_Train_c e q hq0 hq1) (by simp) rfl ?_
    simp -dsimp -implicitDefEqProofs
    refine ⟨fun h => by rw [← hf, andSz_neg h], fun h => ⟨inI_succ hlt hl, k + 1, ⟨sz_Train e q, ?_⟩⟩⟩
    rw [andSz_pos h] at hf
    have hle : sz_Train e q ≤ 1048576 := by
      rcases sz_Train_ok e q hq0 hq1 with e1 | e1
      · omega
      · omega
    exact ⟨⟨hlt, h, hle, hf⟩, by omega, by apply le_of <;> simp [AV.refs1, AV.ref0, Obj.refs1]⟩
  · simp -dsimp -implicitDefEqProofs [lt_f hge]
    rw [List.drop_of_length_le hge] at hf
    intro _
    first | simpa [foldSz] using hf | simpa [foldSz] using hf.symm
theorem toTrainS_c (xs : List Train) (hl : small_TrainS xs) : PureF Tryz.prog n_laws_toTrainS [.c (.sl 2 (xs.map Train.enc))] (.c (.sl 2 (xs.map Train.enc))) := by
  refine pure_of h_laws_toTrainS (by simp) fun hwf => ?_
  simp -dsimp -implicitDefEqProofs [c_laws_toTrainS]
  intro hlen
  have hl1 := hl.1
  refine ⟨by omega, ?_⟩
  refine loop_rule (ι := Nat) (fun k => k ≤ xs.length) (fun k => stOf [(0, .c (.sl 2 (xs.map Train.enc))), (3, .own 7 2 xs.length), (4, .c (.i k))] [(7, .row 2 (partly Train.enc [.b false, .sl 1 []] xs k))]) (fun k => xs.length - k) 0 (by simp) (by apply le_of <;> simp [AV.refs1, AV.ref0, Obj.refs1, partly_zero]) ?_
  rintro k hk
  rcases Nat.lt_or_ge k xs.length with hlt | hge
  · obtain ⟨e, he⟩ : ∃ e, xs[k]? = some e := ⟨_, List.getElem?_eq_getElem hlt⟩
    have hs := partly_set (f := Train.enc) (z := [.b false, .sl 1 []]) he
    have hd := partly_drop (f := Train.enc) (z := [.b false, .sl 1 []]) (n := 2) rfl hlt
    simp only [Train.enc] at hs
    simp -dsimp -implicitDefEqProofs [he, lt_t hlt]
    refine fun _ => call_pure (toTrain_c e (hl.2 e (List.mem_of_getElem? he))) (by simp) rfl ?_
    simp -dsimp -implicitDefEqProofs [lt_t hlt, partly_len hk, hd, hs]
    exact ⟨hlt, inI_succ hlt hlen, k + 1, hlt, by omega, by apply le_of <;> simp [AV.refs1, AV.ref0, Obj.refs1]⟩
  · simp -dsimp -implicitDefEqProofs [lt_f hge]
    intro _
    rw [partly_all hge, List.take_of_length_le (by simp)]
theorem eqTrainS_c (es fs : List Train) : PureF Tryz.prog n_laws_eqTrainS [.c (.sl 2 (es.map Train.enc)), .c (.sl 2 (fs.map Train.enc))] (.c (.b (decide (es = fs)))) := by
  refine pure_of h_laws_eqTrainS (by simp) fun hwf => ?_
  simp -dsimp -implicitDefEqProofs [c_laws_eqTrainS]
  intro hl1 hl2
  refine ⟨fun h e => h (by rw [e]), fun hlen => ?_⟩
  have hlen' : es.length = fs.length := by omega
  refine loop_rule (ι := Nat) (fun k => k ≤ es.length ∧ es.take k = fs.take k) (fun k => stOf [(0, .c (.sl 2 (es.map Train.enc))), (1, .c (.sl 2 (fs.map Train.enc))), (5, .c (.i k))] []) (fun k => es.length - k) 0 (by simp) (by apply le_of <;> simp [AV.refs1, AV.ref0, Obj.refs1]) ?_
  rintro k ⟨hk, htk⟩
  rcases Nat.lt_or_ge k es.length with hlt | hge
  · obtain ⟨e, he⟩ : ∃ e, es[k]? = some e := ⟨_, List.getElem?_eq_getElem hlt⟩
    obtain ⟨f, hf⟩ : ∃ f, fs[k]? = some f := ⟨_, List.getElem?_eq_getElem (by omega)⟩
    simp -dsimp -implicitDefEqProofs [he, hf, lt_t hlt, lt_t (hlen' ▸ hlt)]
    intro _
    refine ⟨_, _, eqTrain_c e f, by simp, .inr rfl, ?_⟩
    simp -dsimp -implicitDefEqProofs
    refine ⟨fun h => ne_of_get he hf h, fun h => ⟨inI_succ hlt hl1, k + 1, ⟨hlt, take_eq_succ he hf htk h⟩, by omega, by apply le_of <;> simp [AV.refs1, AV.ref0, Obj.refs1]⟩⟩
  · simp -dsimp -implicitDefEqProofs [lt_f hge]
    intro _
    exact eq_of_take hge hlen' htk
structure Lock where
  Length : Int
  Width : Int
  SillAbove : Int
  SillBelow : Int
  Base : Int
  Area : Int
  Rate : Int
  Water : Int
  Gate : Int
  Inside : List Train
  deriving DecidableEq, Inhabited
@[simp] def Lock.enc (e : Lock) : List C := [.i e.Length, .i e.Width, .i e.SillAbove, .i e.SillBelow, .i e.Base, .i e.Area, .i e.Rate, .i e.Water, .i e.Gate, .sl 2 (e.Inside.map Train.enc)]
-- Lock
def sz_Lock (e : Lock) (l : Int) : Int := andSz (sz_TrainS e.Inside l) fun l => l
def Lock.small (e : Lock) : Prop := small_TrainS e.Inside
theorem sz_Lock_ok : SzOk sz_Lock Lock.small := by
  intro e l h0 h1
  unfold sz_Lock
  rcases sz_TrainS_ok e.Inside _ h0 h1 with e0 | ⟨a0, b0, s0⟩
  · exact .inl (andSz_neg (by omega))
  rw [andSz_pos a0]
  exact .inr ⟨a0, by omega, s0⟩
theorem sz_Lock_c (e : Lock) (l : Int) (h0 : 0 ≤ l) (h1 : l ≤ 1048576) : PureF Tryz.prog n_laws_szLock [.agg (e.enc.map .c), .c (.i l)] (.c (.i (sz_Lock e l))) := by
  refine pure_of h_laws_szLock (by simp) fun hwf => ?_
  simp -dsimp -implicitDefEqProofs [c_laws_szLock]
  refine call_lend (sz_TrainS_c e.Inside _ h0 h1) (by simp) rfl ?_
  simp -dsimp -implicitDefEqProofs
  refine ⟨fun h => by simp [sz_Lock, andSz_neg h], fun p0 => ?_⟩
  simp [sz_Lock, andSz_pos p0]
theorem toLock_c (e : Lock) (hl : Lock.small e) : PureF Tryz.prog n_laws_toLock [.agg (e.enc.map .c)] (.agg (e.enc.map .c)) := by
  refine pure_of h_laws_toLock (by simp) fun hwf => ?_
  simp -dsimp -implicitDefEqProofs [c_laws_toLock]
  first
    | refine call_pure (toTrainS_c e.Inside hl) (by simp) rfl ?_
    | refine ⟨_, _, toTrainS_c e.Inside hl, by simp, .inl rfl, ?_⟩
  simp -dsimp -implicitDefEqProofs
theorem eqLock_c (a b : Lock) : PureF Tryz.prog n_laws_eqLock [.agg (a.enc.map .c), .agg (b.enc.map .c)] (.c (.b (decide (a = b)))) := by
  refine pure_of h_laws_eqLock (by simp) fun hwf => ?_
  obtain ⟨a0, a1, a2, a3, a4, a5, a6, a7, a8, a9⟩ := a
  obtain ⟨b0, b1, b2, b3, b4, b5, b6, b7, b8, b9⟩ := b
  simp -dsimp -implicitDefEqProofs [c_laws_eqLock, Lock.mk.injEq]
  refine ⟨fun h => by simp_all, fun h0 => ?_⟩
  refine ⟨fun h => by simp_all, fun h1 => ?_⟩
  refine ⟨fun h => by simp_all, fun h2 => ?_⟩
  refine ⟨fun h => by simp_all, fun h3 => ?_⟩
  refine ⟨fun h => by simp_all, fun h4 => ?_⟩
  refine ⟨fun h => by simp_all, fun h5 => ?_⟩
  refine ⟨fun h => by simp_all, fun h6 => ?_⟩
  refine ⟨fun h => by simp_all, fun h7 => ?_⟩
  refine ⟨fun h => by simp_all, fun h8 => ?_⟩
  first
    | refine call_lend (eqTrainS_c a9 b9) (by simp) rfl ?_
    | refine ⟨_, _, eqTrainS_c a9 b9, by simp, .inr rfl, ?_⟩
  simp -dsimp -implicitDefEqProofs
  refine ⟨fun h => by simp_all, fun h9 => ?_⟩
  simp_all
structure Weir where
  Gates : Int
  Open : Int
  Step : Int
  Crest : Int
  Width : Int
  deriving DecidableEq, Inhabited
@[simp] def Weir.enc (e : Weir) : List C := [.i e.Gates, .i e.Open, .i e.Step, .i e.Crest, .i e.Width]
-- Weir
theorem toWeir_c (e : Weir) : PureF Tryz.prog n_laws_toWeir [.agg (e.enc.map .c)] (.agg (e.enc.map .c)) := by
  refine pure_of h_laws_toWeir (by simp) fun hwf => ?_
  simp -dsimp -implicitDefEqProofs [c_laws_toWeir]
theorem eqWeir_c (a b : Weir) : PureF Tryz.prog n_laws_eqWeir [.agg (a.enc.map .c), .agg (b.enc.map .c)] (.c (.b (decide (a = b)))) := by
  refine pure_of h_laws_eqWeir (by simp) fun hwf => ?_
  obtain ⟨a0, a1, a2, a3, a4⟩ := a
  obtain ⟨b0, b1, b2, b3, b4⟩ := b
  simp -dsimp -implicitDefEqProofs [c_laws_eqWeir, Weir.mk.injEq]
  refine ⟨fun h => by simp_all, fun h0 => ?_⟩
  refine ⟨fun h => by simp_all, fun h1 => ?_⟩
  refine ⟨fun h => by simp_all, fun h2 => ?_⟩
  refine ⟨fun h => by simp_all, fun h3 => ?_⟩
  refine ⟨fun h => by simp_all, fun h4 => ?_⟩
  simp_all
structure Rule where
  Low : Int
  High : Int
  Flood : Int
  deriving DecidableEq, Inhabited
@[simp] def Rule.enc (e : Rule) : List C := [.i e.Low, .i e.High, .i e.Flood]
-- Rule
theorem toRule_c (e : Rule) : PureF Tryz.prog n_laws_toRule [.agg (e.enc.map .c)] (.agg (e.enc.map .c)) := by
  refine pure_of h_laws_toRule (by simp) fun hwf => ?_
  simp -dsimp -implicitDefEqProofs [c_laws_toRule]
theorem eqRule_c (a b : Rule) : PureF Tryz.prog n_laws_eqRule [.agg (a.enc.map .c), .agg (b.enc.map .c)] (.c (.b (decide (a = b)))) := by
  refine pure_of h_laws_eqRule (by simp) fun hwf => ?_
  obtain ⟨a0, a1, a2⟩ := a
  obtain ⟨b0, b1, b2⟩ := b
  simp -dsimp -implicitDefEqProofs [c_laws_eqRule, Rule.mk.injEq]
  refine ⟨fun h => by simp_all, fun h0 => ?_⟩
  refine ⟨fun h => by simp_all, fun h1 => ?_⟩
  refine ⟨fun h => by simp_all, fun h2 => ?_⟩
  simp_all
structure Pause where
  From : Int
  Until : Int
  deriving DecidableEq, Inhabited
@[simp] def Pause.enc (e : Pause) : List C := [.i e.From, .i e.Until]
-- Pause
theorem toPause_c (e : Pause) : PureF Tryz.prog n_laws_toPause [.agg (e.enc.map .c)] (.agg (e.enc.map .c)) := by
  refine pure_of h_laws_toPause (by simp) fun hwf => ?_
  simp -dsimp -implicitDefEqProofs [c_laws_toPause]
theorem eqPause_c (a b : Pause) : PureF Tryz.prog n_laws_eqPause [.agg (a.enc.map .c), .agg (b.enc.map .c)] (.c (.b (decide (a = b)))) := by
  refine pure_of h_laws_eqPause (by simp) fun hwf => ?_
  obtain ⟨a0, a1⟩ := a
  obtain ⟨b0, b1⟩ := b
  simp -dsimp -implicitDefEqProofs [c_laws_eqPause, Pause.mk.injEq]
  refine ⟨fun h => by simp_all, fun h0 => ?_⟩
  refine ⟨fun h => by simp_all, fun h1 => ?_⟩
  simp_all
-- []Pause
def sz_PauseS (xs : List Pause) (l : Int) : Int := szS xs.length l
def small_PauseS : List Pause → Prop := smallS fun _ => True
theorem sz_PauseS_ok : SzOk sz_PauseS small_PauseS := szS_ok'
theorem sz_PauseS_c (xs : List Pause) (l : Int) (h0 : 0 ≤ l) (h1 : l ≤ 1048576) : PureF Tryz.prog n_laws_szPauseS [.c (.sl 2 (xs.map Pause.enc)), .c (.i l)] (.c (.i (sz_PauseS xs l))) := by
  refine pure_of h_laws_szPauseS (by simp) fun hwf => ?_
  simp -dsimp -implicitDefEqProofs [c_laws_szPauseS, sz_PauseS, szS]
  intro hl
  unfold maxLen at hl
  refine ⟨by unfold inI; omega, fun h => ?_, fun h => ?_⟩ <;> intros <;> omega
theorem toPauseS_c (xs : List Pause) (hl : small_PauseS xs) : PureF Tryz.prog n_laws_toPauseS [.c (.sl 2 (xs.map Pause.enc))] (.c (.sl 2 (xs.map Pause.enc))) := by
  refine pure_of h_laws_toPauseS (by simp) fun hwf => ?_
  simp -dsimp -implicitDefEqProofs [c_laws_toPauseS]
  intro hlen
  have hl1 := hl.1
  refine ⟨by omega, ?_⟩
  refine loop_rule (ι := Nat) (fun k => k ≤ xs.length) (fun k => stOf [(0, .c (.sl 2 (xs.map Pause.enc))), (3, .own 7 2 xs.length), (4, .c (.i k))] [(7, .row 2 (partly Pause.enc [.i 0, .i 0] xs k))]) (fun k => xs.length - k) 0 (by simp) (by apply le_of <;> simp [AV.refs1, AV.ref0, Obj.refs1, partly_zero]) ?_
  rintro k hk
  rcases Nat.lt_or_ge k xs.length with hlt | hge
  · obtain ⟨e, he⟩ : ∃ e, xs[k]? = some e := ⟨_, List.getElem?_eq_getElem hlt⟩
    have hs := partly_set (f := Pause.enc) (z := [.i 0, .i 0]) he
    have hd := partly_drop (f := Pause.enc) (z := [.i 0, .i 0]) (n := 2) rfl hlt
    simp only [Pause.enc] at hs
    simp -dsimp -implicitDefEqProofs [he, lt_t hlt]
    refine fun _ => call_pure (toPause_c e ) (by simp) rfl ?_
    simp -dsimp -implicitDefEqProofs [lt_t hlt, partly_len hk, hd, hs]
    exact ⟨hlt, inI_succ hlt hlen, k + 1, hlt, by omega, by apply le_of <;> simp [AV.refs1, AV.ref0, Obj.refs1]⟩
  · simp -dsimp -implicitDefEqProofs [lt_f hge]
    intro _
    rw [partly_all hge, List.take_of_length_le (by simp)]
theorem eqPauseS_c (es fs : List Pause) : PureF Tryz.prog n_laws_eqPauseS [.c (.sl 2 (es.map Pause.enc)), .c (.sl 2 (fs.map Pause.enc))] (.c (.b (decide (es = fs)))) := by
  refine pure_of h_laws_eqPauseS (by simp) fun hwf => ?_
  simp -dsimp -implicitDefEqProofs [c_laws_eqPauseS]
  intro hl1 hl2
  refine ⟨fun h e => h (by rw [e]), fun hlen => ?_⟩
  have hlen' : es.length = fs.length := by omega
  refine loop_rule (ι := Nat) (fun k => k ≤ es.length ∧ es.take k = fs.take k) (fun k => stOf [(0, .c (.sl 2 (es.map Pause.enc))), (1, .c (.sl 2 (fs.map Pause.enc))), (5, .c (.i k))] []) (fun k => es.length - k) 0 (by simp) (by apply le_of <;> simp [AV.refs1, AV.ref0, Obj.refs1]) ?_
  rintro k ⟨hk, htk⟩
  rcases Nat.lt_or_ge k es.length with hlt | hge
  · obtain ⟨e, he⟩ : ∃ e, es[k]? = some e := ⟨_, List.getElem?_eq_getElem hlt⟩
    obtain ⟨f, hf⟩ : ∃ f, fs[k]? = some f := ⟨_, List.getElem?_eq_getElem (by omega)⟩
    simp -dsimp -implicitDefEqProofs [he, hf, lt_t hlt, lt_t (hlen' ▸ hlt)]
    intro _
    refine ⟨_, _, eqPause_c e f, by simp, .inr rfl, ?_⟩
    simp -dsimp -implicitDefEqProofs
    refine ⟨fun h => ne_of_get he hf h, fun h => ⟨inI_succ hlt hl1, k + 1, ⟨hlt, take_eq_succ he hf htk h⟩, by omega, by apply le_of <;> simp [AV.refs1, AV.ref0, Obj.refs1]⟩⟩
  · simp -dsimp -implicitDefEqProofs [lt_f hge]
    intro _
    exact eq_of_take hge hlen' htk
structure Turn where
  Up : Bool
  Count : Int
  deriving DecidableEq, Inhabited
@[simp] def Turn.enc (e : Turn) : List C := [.b e.Up, .i e.Count]
-- Turn
theorem toTurn_c (e : Turn) : PureF Tryz.prog n_laws_toTurn [.agg (e.enc.map .c)] (.agg (e.enc.map .c)) := by
  refine pure_of h_laws_toTurn (by simp) fun hwf => ?_
  simp -dsimp -implicitDefEqProofs [c_laws_toTurn]
theorem eqTurn_c (a b : Turn) : PureF Tryz.prog n_laws_eqTurn [.agg (a.enc.map .c), .agg (b.enc.map .c)] (.c (.b (decide (a = b)))) := by
  refine pure_of h_laws_eqTurn (by simp) fun hwf => ?_
  obtain ⟨a0, a1⟩ := a
  obtain ⟨b0, b1⟩ := b
  simp -dsimp -implicitDefEqProofs [c_laws_eqTurn, Turn.mk.injEq]
  refine ⟨fun h => by simp_all, fun h0 => ?_⟩
  refine ⟨fun h => by simp_all, fun h1 => ?_⟩
  simp_all
structure CallT where
  Train : Train
  Since : Int
  Booked : Int
  deriving DecidableEq, Inhabited
@[simp] def CallT.enc (e : CallT) : List C := [.b e.Train.Up, .sl 1 (e.Train.Rows.map enc_BoatS), .i e.Since, .i e.Booked]
-- Call
def sz_Call (e : CallT) (l : Int) : Int := andSz (sz_Train e.Train l) fun l => l
def CallT.small (e : CallT) : Prop := e.Train.small
theorem sz_Call_ok : SzOk sz_Call CallT.small := by
  intro e l h0 h1
  unfold sz_Call
  rcases sz_Train_ok e.Train _ h0 h1 with e0 | ⟨a0, b0, s0⟩
  · exact .inl (andSz_neg (by omega))
  rw [andSz_pos a0]
  exact .inr ⟨a0, by omega, s0⟩
theorem sz_Call_c (e : CallT) (l : Int) (h0 : 0 ≤ l) (h1 : l ≤ 1048576) : PureF Tryz.prog n_laws_szCall [.agg (e.enc.map .c), .c (.i l)] (.c (.i (sz_Call e l))) := by
  refine pure_of h_laws_szCall (by simp) fun hwf => ?_
  simp -dsimp -implicitDefEqProofs [c_laws_szCall]
  refine call_lend (sz_Train_c e.Train _ h0 h1) (by simp) rfl ?_
  simp -dsimp -implicitDefEqProofs
  refine ⟨fun h => by simp [sz_Call, andSz_neg h], fun p0 => ?_⟩
  simp [sz_Call, andSz_pos p0]
theorem toCall_c (e : CallT) (hl : CallT.small e) : PureF Tryz.prog n_laws_toCall [.agg (e.enc.map .c)] (.agg (e.enc.map .c)) := by
  refine pure_of h_laws_toCall (by simp) fun hwf => ?_
  simp -dsimp -implicitDefEqProofs [c_laws_toCall]
  first
    | refine call_pure (toTrain_c e.Train hl) (by simp) rfl ?_
    | refine ⟨_, _, toTrain_c e.Train hl, by simp, .inl rfl, ?_⟩
  simp -dsimp -implicitDefEqProofs
theorem eqCall_c (a b : CallT) : PureF Tryz.prog n_laws_eqCall [.agg (a.enc.map .c), .agg (b.enc.map .c)] (.c (.b (decide (a = b)))) := by
  refine pure_of h_laws_eqCall (by simp) fun hwf => ?_
  obtain ⟨a0, a1, a2⟩ := a
  obtain ⟨b0, b1, b2⟩ := b
  simp -dsimp -implicitDefEqProofs [c_laws_eqCall, CallT.mk.injEq]
  first
    | refine call_lend (eqTrain_c a0 b0) (by simp) rfl ?_
    | refine ⟨_, _, eqTrain_c a0 b0, by simp, .inr rfl, ?_⟩
  simp -dsimp -implicitDefEqProofs
  refine ⟨fun h => by simp_all, fun h0 => ?_⟩
  refine ⟨fun h => by simp_all, fun h1 => ?_⟩
  refine ⟨fun h => by simp_all, fun h2 => ?_⟩
  simp_all
-- []Call
def sz_CallS : List CallT → Int → Int := szSS sz_Call
def small_CallS : List CallT → Prop := smallS CallT.small
theorem sz_CallS_ok : SzOk sz_CallS small_CallS := szSS_ok sz_Call_ok
theorem sz_CallS_c (xs : List CallT) (l : Int) (h0 : 0 ≤ l) (h1 : l ≤ 1048576) : PureF Tryz.prog n_laws_szCallS [.c (.sl 4 (xs.map CallT.enc)), .c (.i l)] (.c (.i (sz_CallS xs l))) := by
  refine pure_of h_laws_szCallS (by simp) fun hwf => ?_
  simp -dsimp -implicitDefEqProofs [c_laws_szCallS]
  intro hl
  have hs : szS xs.length l = if l - xs.length < 0 then -1 else l - xs.length := rfl
  refine ⟨by unfold maxLen at hl; unfold inI; omega, fun h => ?_, fun h => ?_⟩
  · simp [sz_CallS, szSS, andSz, hs, h]
  have h' : 0 ≤ l - xs.length := by omega
  have e0 : sz_CallS xs l = foldSz sz_Call xs (l - xs.length) := by
    have : szS xs.length l = l - xs.length := by rw [hs, if_neg (by omega)]
    simp only [sz_CallS, szSS]
    rw [this, andSz_pos h']
  refine loop_rule (ι := Nat × Int) (fun p => p.1 ≤ xs.length ∧ 0 ≤ p.2 ∧ p.2 ≤ 1048576 ∧ foldSz sz_Call (xs.drop p.1) p.2 = sz_CallS xs l) (fun p => stOf [(0, .c (.sl 4 (xs.map CallT.enc))), (1, .c (.i p.2)), (5, .c (.i p.1))] []) (fun p => xs.length - p.1) (0, l - xs.length) ⟨by simp, h', by simp only; omega, by simp [e0]⟩ (by apply le_of <;> simp [AV.refs1, AV.ref0, Obj.refs1]) ?_
  rintro ⟨k, q⟩ ⟨hk, hq0, hq1, hf⟩
  simp only at hk hq0 hq1 hf
  rcases Nat.lt_or_ge k xs.length with hlt | hge
  · obtain ⟨e, he⟩ : ∃ e, xs[k]? = some e := ⟨_, List.getElem?_eq_getElem hlt⟩
    have hd : xs.drop k = e :: xs.drop (k + 1) := by
      rw [List.drop_eq_getElem_cons hlt, (List.getElem?_eq_some_iff.1 he).2]
    rw [hd, foldSz] at hf
    simp -dsimp -implicitDefEqProofs [he, lt_t hlt]
    refine fun _ => call_lend (sz_Call_c e q hq0 hq1) (by simp) rfl ?_
    simp -dsimp -implicitDefEqProofs
    refine ⟨fun h => by rw [← hf, andSz_neg h], fun h => ⟨inI_succ hlt hl, k + 1, ⟨sz_Call e q, ?_⟩⟩⟩
    rw [andSz_pos h] at hf
    have hle : sz_Call e q ≤ 1048576 := by
      rcases sz_Call_ok e q hq0 hq1 with e1 | e1
      · omega
      · omega
    exact ⟨⟨hlt, h, hle, hf⟩, by omega, by apply le_of <;> simp [AV.refs1, AV.ref0, Obj.refs1]⟩
  · simp -dsimp -implicitDefEqProofs [lt_f hge]
    rw [List.drop_of_length_le hge] at hf
    intro _
    first | simpa [foldSz] using hf | simpa [foldSz] using hf.symm
theorem toCallS_c (xs : List CallT) (hl : small_CallS xs) : PureF Tryz.prog n_laws_toCallS [.c (.sl 4 (xs.map CallT.enc))] (.c (.sl 4 (xs.map CallT.enc))) := by
  refine pure_of h_laws_toCallS (by simp) fun hwf => ?_
  simp -dsimp -implicitDefEqProofs [c_laws_toCallS]
  intro hlen
  have hl1 := hl.1
  refine ⟨by omega, ?_⟩
  refine loop_rule (ι := Nat) (fun k => k ≤ xs.length) (fun k => stOf [(0, .c (.sl 4 (xs.map CallT.enc))), (3, .own 7 4 xs.length), (4, .c (.i k))] [(7, .row 4 (partly CallT.enc [.b false, .sl 1 [], .i 0, .i 0] xs k))]) (fun k => xs.length - k) 0 (by simp) (by apply le_of <;> simp [AV.refs1, AV.ref0, Obj.refs1, partly_zero]) ?_
  rintro k hk
  rcases Nat.lt_or_ge k xs.length with hlt | hge
  · obtain ⟨e, he⟩ : ∃ e, xs[k]? = some e := ⟨_, List.getElem?_eq_getElem hlt⟩
    have hs := partly_set (f := CallT.enc) (z := [.b false, .sl 1 [], .i 0, .i 0]) he
    have hd := partly_drop (f := CallT.enc) (z := [.b false, .sl 1 [], .i 0, .i 0]) (n := 4) rfl hlt
    simp only [CallT.enc, Train.enc] at hs
    simp -dsimp -implicitDefEqProofs [he, lt_t hlt]
    refine fun _ => call_pure (toCall_c e (hl.2 e (List.mem_of_getElem? he))) (by simp) rfl ?_
    simp -dsimp -implicitDefEqProofs [lt_t hlt, partly_len hk, hd, hs]
    exact ⟨hlt, inI_succ hlt hlen, k + 1, hlt, by omega, by apply le_of <;> simp [AV.refs1, AV.ref0, Obj.refs1]⟩
  · simp -dsimp -implicitDefEqProofs [lt_f hge]
    intro _
    rw [partly_all hge, List.take_of_length_le (by simp)]
theorem eqCallS_c (es fs : List CallT) : PureF Tryz.prog n_laws_eqCallS [.c (.sl 4 (es.map CallT.enc)), .c (.sl 4 (fs.map CallT.enc))] (.c (.b (decide (es = fs)))) := by
  refine pure_of h_laws_eqCallS (by simp) fun hwf => ?_
  simp -dsimp -implicitDefEqProofs [c_laws_eqCallS]
  intro hl1 hl2
  refine ⟨fun h e => h (by rw [e]), fun hlen => ?_⟩
  have hlen' : es.length = fs.length := by omega
  refine loop_rule (ι := Nat) (fun k => k ≤ es.length ∧ es.take k = fs.take k) (fun k => stOf [(0, .c (.sl 4 (es.map CallT.enc))), (1, .c (.sl 4 (fs.map CallT.enc))), (5, .c (.i k))] []) (fun k => es.length - k) 0 (by simp) (by apply le_of <;> simp [AV.refs1, AV.ref0, Obj.refs1]) ?_
  rintro k ⟨hk, htk⟩
  rcases Nat.lt_or_ge k es.length with hlt | hge
  · obtain ⟨e, he⟩ : ∃ e, es[k]? = some e := ⟨_, List.getElem?_eq_getElem hlt⟩
    obtain ⟨f, hf⟩ : ∃ f, fs[k]? = some f := ⟨_, List.getElem?_eq_getElem (by omega)⟩
    simp -dsimp -implicitDefEqProofs [he, hf, lt_t hlt, lt_t (hlen' ▸ hlt)]
    intro _
    refine ⟨_, _, eqCall_c e f, by simp, .inr rfl, ?_⟩
    simp -dsimp -implicitDefEqProofs
    refine ⟨fun h => ne_of_get he hf h, fun h => ⟨inI_succ hlt hl1, k + 1, ⟨hlt, take_eq_succ he hf htk h⟩, by omega, by apply le_of <;> simp [AV.refs1, AV.ref0, Obj.refs1]⟩⟩
  · simp -dsimp -implicitDefEqProofs [lt_f hge]
    intro _
    exact eq_of_take hge hlen' htk
structure Work where
  Lock : Lock
  Weir : Weir
  Rule : Rule
  Pauses : List Pause
  Turn : Turn
  Calls : List CallT
  deriving DecidableEq, Inhabited
@[simp] def Work.enc (e : Work) : List C := [.i e.Lock.Length, .i e.Lock.Width, .i e.Lock.SillAbove, .i e.Lock.SillBelow, .i e.Lock.Base, .i e.Lock.Area, .i e.Lock.Rate, .i e.Lock.Water, .i e.Lock.Gate, .sl 2 (e.Lock.Inside.map Train.enc), .i e.Weir.Gates, .i e.Weir.Open, .i e.Weir.Step, .i e.Weir.Crest, .i e.Weir.Width, .i e.Rule.Low, .i e.Rule.High, .i e.Rule.Flood, .sl 2 (e.Pauses.map Pause.enc), .b e.Turn.Up, .i e.Turn.Count, .sl 4 (e.Calls.map CallT.enc)]
-- Work
def sz_Work (e : Work) (l : Int) : Int := andSz (sz_Lock e.Lock l) fun l => andSz (sz_PauseS e.Pauses l) fun l => andSz (sz_CallS e.Calls l) fun l => l
def Work.small (e : Work) : Prop := e.Lock.small ∧ small_PauseS e.Pauses ∧ small_CallS e.Calls
theorem sz_Work_ok : SzOk sz_Work Work.small := by
  intro e l h0 h1
  unfold sz_Work
  rcases sz_Lock_ok e.Lock _ h0 h1 with e0 | ⟨a0, b0, s0⟩
  · exact .inl (andSz_neg (by omega))
  rw [andSz_pos a0]
  rcases sz_PauseS_ok e.Pauses _ a0 (by omega) with e1 | ⟨a1, b1, s1⟩
  · exact .inl (andSz_neg (by omega))
  rw [andSz_pos a1]
  rcases sz_CallS_ok e.Calls _ a1 (by omega) with e2 | ⟨a2, b2, s2⟩
  · exact .inl (andSz_neg (by omega))
  rw [andSz_pos a2]
  exact .inr ⟨a2, by omega, s0, s1, s2⟩
theorem sz_Work_c (e : Work) (l : Int) (h0 : 0 ≤ l) (h1 : l ≤ 1048576) : PureF Tryz.prog n_laws_szWork [.agg (e.enc.map .c), .c (.i l)] (.c (.i (sz_Work e l))) := by
  refine pure_of h_laws_szWork (by simp) fun hwf => ?_
  simp -dsimp -implicitDefEqProofs [c_laws_szWork]
  refine call_lend (sz_Lock_c e.Lock _ h0 h1) (by simp) rfl ?_
  simp -dsimp -implicitDefEqProofs
  refine ⟨fun h => by simp [sz_Work, andSz_neg h], fun p0 => ?_⟩
  have q0 := sz_le sz_Lock_ok e.Lock h0 h1 p0
  refine call_lend (sz_PauseS_c e.Pauses _ p0 q0) (by simp) rfl ?_
  simp -dsimp -implicitDefEqProofs
  refine ⟨fun h => by simp [sz_Work, andSz_pos p0, andSz_neg h], fun p1 => ?_⟩
  have q1 := sz_le sz_PauseS_ok e.Pauses p0 q0 p1
  refine call_lend (sz_CallS_c e.Calls _ p1 q1) (by simp) rfl ?_
  simp -dsimp -implicitDefEqProofs
  refine ⟨fun h => by simp [sz_Work, andSz_pos p0, andSz_pos p1, andSz_neg h], fun p2 => ?_⟩
  simp [sz_Work, andSz_pos p0, andSz_pos p1, andSz_pos p2]
theorem toWork_c (e : Work) (hl : Work.small e) : PureF Tryz.prog n_laws_toWork [.agg (e.enc.map .c)] (.agg (e.enc.map .c)) := by
  refine pure_of h_laws_toWork (by simp) fun hwf => ?_
  simp -dsimp -implicitDefEqProofs [c_laws_toWork]
  first
    | refine call_pure (toLock_c e.Lock (hl.1)) (by simp) rfl ?_
    | refine ⟨_, _, toLock_c e.Lock (hl.1), by simp, .inl rfl, ?_⟩
  simp -dsimp -implicitDefEqProofs
  first
    | refine call_pure (toWeir_c e.Weir) (by simp) rfl ?_
    | refine ⟨_, _, toWeir_c e.Weir, by simp, .inl rfl, ?_⟩
  simp -dsimp -implicitDefEqProofs
  first
    | refine call_pure (toRule_c e.Rule) (by simp) rfl ?_
    | refine ⟨_, _, toRule_c e.Rule, by simp, .inl rfl, ?_⟩
  simp -dsimp -implicitDefEqProofs
  first
    | refine call_pure (toPauseS_c e.Pauses (hl.2.1)) (by simp) rfl ?_
    | refine ⟨_, _, toPauseS_c e.Pauses (hl.2.1), by simp, .inl rfl, ?_⟩
  simp -dsimp -implicitDefEqProofs
  first
    | refine call_pure (toTurn_c e.Turn) (by simp) rfl ?_
    | refine ⟨_, _, toTurn_c e.Turn, by simp, .inl rfl, ?_⟩
  simp -dsimp -implicitDefEqProofs
  first
    | refine call_pure (toCallS_c e.Calls (hl.2.2)) (by simp) rfl ?_
    | refine ⟨_, _, toCallS_c e.Calls (hl.2.2), by simp, .inl rfl, ?_⟩
  simp -dsimp -implicitDefEqProofs
theorem eqWork_c (a b : Work) : PureF Tryz.prog n_laws_eqWork [.agg (a.enc.map .c), .agg (b.enc.map .c)] (.c (.b (decide (a = b)))) := by
  refine pure_of h_laws_eqWork (by simp) fun hwf => ?_
  obtain ⟨a0, a1, a2, a3, a4, a5⟩ := a
  obtain ⟨b0, b1, b2, b3, b4, b5⟩ := b
  simp -dsimp -implicitDefEqProofs [c_laws_eqWork, Work.mk.injEq]
  first
    | refine call_lend (eqLock_c a0 b0) (by simp) rfl ?_
    | refine ⟨_, _, eqLock_c a0 b0, by simp, .inr rfl, ?_⟩
  simp -dsimp -implicitDefEqProofs
  refine ⟨fun h => by simp_all, fun h0 => ?_⟩
  first
    | refine call_lend (eqWeir_c a1 b1) (by simp) rfl ?_
    | refine ⟨_, _, eqWeir_c a1 b1, by simp, .inr rfl, ?_⟩
  simp -dsimp -implicitDefEqProofs
  refine ⟨fun h => by simp_all, fun h1 => ?_⟩
  first
    | refine call_lend (eqRule_c a2 b2) (by simp) rfl ?_
    | refine ⟨_, _, eqRule_c a2 b2, by simp, .inr rfl, ?_⟩
  simp -dsimp -implicitDefEqProofs
  refine ⟨fun h => by simp_all, fun h2 => ?_⟩
  first
    | refine call_lend (eqPauseS_c a3 b3) (by simp) rfl ?_
    | refine ⟨_, _, eqPauseS_c a3 b3, by simp, .inr rfl, ?_⟩
  simp -dsimp -implicitDefEqProofs
  refine ⟨fun h => by simp_all, fun h3 => ?_⟩
  first
    | refine call_lend (eqTurn_c a4 b4) (by simp) rfl ?_
    | refine ⟨_, _, eqTurn_c a4 b4, by simp, .inr rfl, ?_⟩
  simp -dsimp -implicitDefEqProofs
  refine ⟨fun h => by simp_all, fun h4 => ?_⟩
  first
    | refine call_lend (eqCallS_c a5 b5) (by simp) rfl ?_
    | refine ⟨_, _, eqCallS_c a5 b5, by simp, .inr rfl, ?_⟩
  simp -dsimp -implicitDefEqProofs
  refine ⟨fun h => by simp_all, fun h5 => ?_⟩
  simp_all
def sz_EntryS (xs : List Entry) (l : Int) : Int := szS xs.length l
def small_EntryS : List Entry → Prop := smallS fun _ => True
theorem sz_EntryS_ok : SzOk sz_EntryS small_EntryS := szS_ok'
theorem sz_EntryS_c (xs : List Entry) (l : Int) (h0 : 0 ≤ l) (h1 : l ≤ 1048576) : PureF Tryz.prog n_laws_szEntryS [.c (.sl 5 (xs.map Entry.enc)), .c (.i l)] (.c (.i (sz_EntryS xs l))) := by
  refine pure_of h_laws_szEntryS (by simp) fun hwf => ?_
  simp -dsimp -implicitDefEqProofs [c_laws_szEntryS, sz_EntryS, szS]
  intro hl
  unfold maxLen at hl
  refine ⟨by unfold inI; omega, fun h => ?_, fun h => ?_⟩ <;> intros <;> omega
theorem eqWay_c (a b : Way) : PureF Tryz.prog n_laws_eqWay [.agg (a.enc.map .c), .agg (b.enc.map .c)] (.c (.b (decide (a = b)))) := by
  refine pure_of h_laws_eqWay (by simp) fun hwf => ?_
  obtain ⟨a0, a1⟩ := a
  obtain ⟨b0, b1⟩ := b
  simp -dsimp -implicitDefEqProofs [c_laws_eqWay, Way.mk.injEq]
  refine ⟨fun h => by simp_all, fun h0 => ?_⟩
  refine ⟨fun h => by simp_all, fun h1 => ?_⟩
  simp_all
-- []Reach
def sz_ReachS : List Reach → Int → Int := szSS sz_Reach
def small_ReachS : List Reach → Prop := smallS Reach.small
theorem sz_ReachS_ok : SzOk sz_ReachS small_ReachS := szSS_ok sz_Reach_ok
theorem sz_ReachS_c (xs : List Reach) (l : Int) (h0 : 0 ≤ l) (h1 : l ≤ 1048576) : PureF Tryz.prog n_laws_szReachS [.c (.sl 3 (xs.map Reach.enc)), .c (.i l)] (.c (.i (sz_ReachS xs l))) := by
  refine pure_of h_laws_szReachS (by simp) fun hwf => ?_
  simp -dsimp -implicitDefEqProofs [c_laws_szReachS]
  intro hl
  have hs : szS xs.length l = if l - xs.length < 0 then -1 else l - xs.length := rfl
  refine ⟨by unfold maxLen at hl; unfold inI; omega, fun h => ?_, fun h => ?_⟩
  · simp [sz_ReachS, szSS, andSz, hs, h]
  have h' : 0 ≤ l - xs.length := by omega
  have e0 : sz_ReachS xs l = foldSz sz_Reach xs (l - xs.length) := by
    have : szS xs.length l = l - xs.length := by rw [hs, if_neg (by omega)]
    simp only [sz_ReachS, szSS]
    rw [this, andSz_pos h']
  refine loop_rule (ι := Nat × Int) (fun p => p.1 ≤ xs.length ∧ 0 ≤ p.2 ∧ p.2 ≤ 1048576 ∧ foldSz sz_Reach (xs.drop p.1) p.2 = sz_ReachS xs l) (fun p => stOf [(0, .c (.sl 3 (xs.map Reach.enc))), (1, .c (.i p.2)), (5, .c (.i p.1))] []) (fun p => xs.length - p.1) (0, l - xs.length) ⟨by simp, h', by simp only; omega, by simp [e0]⟩ (by apply le_of <;> simp [AV.refs1, AV.ref0, Obj.refs1]) ?_
  rintro ⟨k, q⟩ ⟨hk, hq0, hq1, hf⟩
  simp only at hk hq0 hq1 hf
  rcases Nat.lt_or_ge k xs.length with hlt | hge
  · obtain ⟨e, he⟩ : ∃ e, xs[k]? = some e := ⟨_, List.getElem?_eq_getElem hlt⟩
    have hd : xs.drop k = e :: xs.drop (k + 1) := by
      rw [List.drop_eq_getElem_cons hlt, (List.getElem?_eq_some_iff.1 he).2]
    rw [hd, foldSz] at hf
    simp -dsimp -implicitDefEqProofs [he, lt_t hlt]
    refine fun _ => call_lend (sz_Reach_c e q hq0 hq1) (by simp) rfl ?_
    simp -dsimp -implicitDefEqProofs
    refine ⟨fun h => by rw [← hf, andSz_neg h], fun h => ⟨inI_succ hlt hl, k + 1, ⟨sz_Reach e q, ?_⟩⟩⟩
    rw [andSz_pos h] at hf
    have hle : sz_Reach e q ≤ 1048576 := by
      rcases sz_Reach_ok e q hq0 hq1 with e1 | e1
      · omega
      · omega
    exact ⟨⟨hlt, h, hle, hf⟩, by omega, by apply le_of <;> simp [AV.refs1, AV.ref0, Obj.refs1]⟩
  · simp -dsimp -implicitDefEqProofs [lt_f hge]
    rw [List.drop_of_length_le hge] at hf
    intro _
    first | simpa [foldSz] using hf | simpa [foldSz] using hf.symm
theorem toReachS_c (xs : List Reach) (hl : small_ReachS xs) : PureF Tryz.prog n_laws_toReachS [.c (.sl 3 (xs.map Reach.enc))] (.c (.sl 3 (xs.map Reach.enc))) := by
  refine pure_of h_laws_toReachS (by simp) fun hwf => ?_
  simp -dsimp -implicitDefEqProofs [c_laws_toReachS]
  intro hlen
  have hl1 := hl.1
  refine ⟨by omega, ?_⟩
  refine loop_rule (ι := Nat) (fun k => k ≤ xs.length) (fun k => stOf [(0, .c (.sl 3 (xs.map Reach.enc))), (3, .own 7 3 xs.length), (4, .c (.i k))] [(7, .row 3 (partly Reach.enc [.sl 2 [], .i 0, .sl 1 []] xs k))]) (fun k => xs.length - k) 0 (by simp) (by apply le_of <;> simp [AV.refs1, AV.ref0, Obj.refs1, partly_zero]) ?_
  rintro k hk
  rcases Nat.lt_or_ge k xs.length with hlt | hge
  · obtain ⟨e, he⟩ : ∃ e, xs[k]? = some e := ⟨_, List.getElem?_eq_getElem hlt⟩
    have hs := partly_set (f := Reach.enc) (z := [.sl 2 [], .i 0, .sl 1 []]) he
    have hd := partly_drop (f := Reach.enc) (z := [.sl 2 [], .i 0, .sl 1 []]) (n := 3) rfl hlt
    simp only [Reach.enc] at hs
    simp -dsimp -implicitDefEqProofs [he, lt_t hlt]
    refine fun _ => call_pure (toReach_c e (hl.2 e (List.mem_of_getElem? he))) (by simp) rfl ?_
    simp -dsimp -implicitDefEqProofs [lt_t hlt, partly_len hk, hd, hs]
    exact ⟨hlt, inI_succ hlt hlen, k + 1, hlt, by omega, by apply le_of <;> simp [AV.refs1, AV.ref0, Obj.refs1]⟩
  · simp -dsimp -implicitDefEqProofs [lt_f hge]
    intro _
    rw [partly_all hge, List.take_of_length_le (by simp)]
theorem eqReachS_c (es fs : List Reach) : PureF Tryz.prog n_laws_eqReachS [.c (.sl 3 (es.map Reach.enc)), .c (.sl 3 (fs.map Reach.enc))] (.c (.b (decide (es = fs)))) := by
  refine pure_of h_laws_eqReachS (by simp) fun hwf => ?_
  simp -dsimp -implicitDefEqProofs [c_laws_eqReachS]
  intro hl1 hl2
  refine ⟨fun h e => h (by rw [e]), fun hlen => ?_⟩
  have hlen' : es.length = fs.length := by omega
  refine loop_rule (ι := Nat) (fun k => k ≤ es.length ∧ es.take k = fs.take k) (fun k => stOf [(0, .c (.sl 3 (es.map Reach.enc))), (1, .c (.sl 3 (fs.map Reach.enc))), (5, .c (.i k))] []) (fun k => es.length - k) 0 (by simp) (by apply le_of <;> simp [AV.refs1, AV.ref0, Obj.refs1]) ?_
  rintro k ⟨hk, htk⟩
  rcases Nat.lt_or_ge k es.length with hlt | hge
  · obtain ⟨e, he⟩ : ∃ e, es[k]? = some e := ⟨_, List.getElem?_eq_getElem hlt⟩
    obtain ⟨f, hf⟩ : ∃ f, fs[k]? = some f := ⟨_, List.getElem?_eq_getElem (by omega)⟩
    simp -dsimp -implicitDefEqProofs [he, hf, lt_t hlt, lt_t (hlen' ▸ hlt)]
    intro _
    refine ⟨_, _, eqReach_c e f, by simp, .inr rfl, ?_⟩
    simp -dsimp -implicitDefEqProofs
    refine ⟨fun h => ne_of_get he hf h, fun h => ⟨inI_succ hlt hl1, k + 1, ⟨hlt, take_eq_succ he hf htk h⟩, by omega, by apply le_of <;> simp [AV.refs1, AV.ref0, Obj.refs1]⟩⟩
  · simp -dsimp -implicitDefEqProofs [lt_f hge]
    intro _
    exact eq_of_take hge hlen' htk
-- []Way
def sz_WayS (xs : List Way) (l : Int) : Int := szS xs.length l
def small_WayS : List Way → Prop := smallS fun _ => True
theorem sz_WayS_ok : SzOk sz_WayS small_WayS := szS_ok'
theorem sz_WayS_c (xs : List Way) (l : Int) (h0 : 0 ≤ l) (h1 : l ≤ 1048576) : PureF Tryz.prog n_laws_szWayS [.c (.sl 2 (xs.map Way.enc)), .c (.i l)] (.c (.i (sz_WayS xs l))) := by
  refine pure_of h_laws_szWayS (by simp) fun hwf => ?_
  simp -dsimp -implicitDefEqProofs [c_laws_szWayS, sz_WayS, szS]
  intro hl
  unfold maxLen at hl
  refine ⟨by unfold inI; omega, fun h => ?_, fun h => ?_⟩ <;> intros <;> omega
theorem toWayS_c (xs : List Way) (hl : small_WayS xs) : PureF Tryz.prog n_laws_toWayS [.c (.sl 2 (xs.map Way.enc))] (.c (.sl 2 (xs.map Way.enc))) := by
  refine pure_of h_laws_toWayS (by simp) fun hwf => ?_
  simp -dsimp -implicitDefEqProofs [c_laws_toWayS]
  intro hlen
  have hl1 := hl.1
  refine ⟨by omega, ?_⟩
  refine loop_rule (ι := Nat) (fun k => k ≤ xs.length) (fun k => stOf [(0, .c (.sl 2 (xs.map Way.enc))), (3, .own 7 2 xs.length), (4, .c (.i k))] [(7, .row 2 (partly Way.enc [.i 0, .i 0] xs k))]) (fun k => xs.length - k) 0 (by simp) (by apply le_of <;> simp [AV.refs1, AV.ref0, Obj.refs1, partly_zero]) ?_
  rintro k hk
  rcases Nat.lt_or_ge k xs.length with hlt | hge
  · obtain ⟨e, he⟩ : ∃ e, xs[k]? = some e := ⟨_, List.getElem?_eq_getElem hlt⟩
    have hs := partly_set (f := Way.enc) (z := [.i 0, .i 0]) he
    have hd := partly_drop (f := Way.enc) (z := [.i 0, .i 0]) (n := 2) rfl hlt
    simp only [Way.enc] at hs
    simp -dsimp -implicitDefEqProofs [he, lt_t hlt]
    refine fun _ => call_pure (toWay_c e ) (by simp) rfl ?_
    simp -dsimp -implicitDefEqProofs [lt_t hlt, partly_len hk, hd, hs]
    exact ⟨hlt, inI_succ hlt hlen, k + 1, hlt, by omega, by apply le_of <;> simp [AV.refs1, AV.ref0, Obj.refs1]⟩
  · simp -dsimp -implicitDefEqProofs [lt_f hge]
    intro _
    rw [partly_all hge, List.take_of_length_le (by simp)]
theorem eqWayS_c (es fs : List Way) : PureF Tryz.prog n_laws_eqWayS [.c (.sl 2 (es.map Way.enc)), .c (.sl 2 (fs.map Way.enc))] (.c (.b (decide (es = fs)))) := by
  refine pure_of h_laws_eqWayS (by simp) fun hwf => ?_
  simp -dsimp -implicitDefEqProofs [c_laws_eqWayS]
  intro hl1 hl2
  refine ⟨fun h e => h (by rw [e]), fun hlen => ?_⟩
  have hlen' : es.length = fs.length := by omega
  refine loop_rule (ι := Nat) (fun k => k ≤ es.length ∧ es.take k = fs.take k) (fun k => stOf [(0, .c (.sl 2 (es.map Way.enc))), (1, .c (.sl 2 (fs.map Way.enc))), (5, .c (.i k))] []) (fun k => es.length - k) 0 (by simp) (by apply le_of <;> simp [AV.refs1, AV.ref0, Obj.refs1]) ?_
  rintro k ⟨hk, htk⟩
  rcases Nat.lt_or_ge k es.length with hlt | hge
  · obtain ⟨e, he⟩ : ∃ e, es[k]? = some e := ⟨_, List.getElem?_eq_getElem hlt⟩
    obtain ⟨f, hf⟩ : ∃ f, fs[k]? = some f := ⟨_, List.getElem?_eq_getElem (by omega)⟩
    simp -dsimp -implicitDefEqProofs [he, hf, lt_t hlt, lt_t (hlen' ▸ hlt)]
    intro _
    refine ⟨_, _, eqWay_c e f, by simp, .inr rfl, ?_⟩
    simp -dsimp -implicitDefEqProofs
    refine ⟨fun h => ne_of_get he hf h, fun h => ⟨inI_succ hlt hl1, k + 1, ⟨hlt, take_eq_succ he hf htk h⟩, by omega, by apply le_of <;> simp [AV.refs1, AV.ref0, Obj.refs1]⟩⟩
  · simp -dsimp -implicitDefEqProofs [lt_f hge]
    intro _
    exact eq_of_take hge hlen' htk
-- []Work
def sz_WorkS : List Work → Int → Int := szSS sz_Work
def small_WorkS : List Work → Prop := smallS Work.small
theorem sz_WorkS_ok : SzOk sz_WorkS small_WorkS := szSS_ok sz_Work_ok
theorem sz_WorkS_c (xs : List Work) (l : Int) (h0 : 0 ≤ l) (h1 : l ≤ 1048576) : PureF Tryz.prog n_laws_szWorkS [.c (.sl 22 (xs.map Work.enc)), .c (.i l)] (.c (.i (sz_WorkS xs l))) := by
  refine pure_of h_laws_szWorkS (by simp) fun hwf => ?_
  simp -dsimp -implicitDefEqProofs [c_laws_szWorkS]
  intro hl
  have hs : szS xs.length l = if l - xs.length < 0 then -1 else l - xs.length := rfl
  refine ⟨by unfold maxLen at hl; unfold inI; omega, fun h => ?_, fun h => ?_⟩
  · simp [sz_WorkS, szSS, andSz, hs, h]
  have h' : 0 ≤ l - xs.length := by omega
  have e0 : sz_WorkS xs l = foldSz sz_Work xs (l - xs.length) := by
    have : szS xs.length l = l - xs.length := by rw [hs, if_neg (by omega)]
    simp only [sz_WorkS, szSS]
    rw [this, andSz_pos h']
  refine loop_rule (ι := Nat × Int) (fun p => p.1 ≤ xs.length ∧ 0 ≤ p.2 ∧ p.2 ≤ 1048576 ∧ foldSz sz_Work (xs.drop p.1) p.2 = sz_WorkS xs l) (fun p => stOf [(0, .c (.sl 22 (xs.map Work.enc))), (1, .c (.i p.2)), (5, .c (.i p.1))] []) (fun p => xs.length - p.1) (0, l - xs.length) ⟨by simp, h', by simp only; omega, by simp [e0]⟩ (by apply le_of <;> simp [AV.refs1, AV.ref0, Obj.refs1]) ?_
  rintro ⟨k, q⟩ ⟨hk, hq0, hq1, hf⟩
  simp only at hk hq0 hq1 hf
  rcases Nat.lt_or_ge k xs.length with hlt | hge
  · obtain ⟨e, he⟩ : ∃ e, xs[k]? = some e := ⟨_, List.getElem?_eq_getElem hlt⟩
    have hd : xs.drop k = e :: xs.drop (k + 1) := by
      rw [List.drop_eq_getElem_cons hlt, (List.getElem?_eq_some_iff.1 he).2]
    rw [hd, foldSz] at hf
    simp -dsimp -implicitDefEqProofs [he, lt_t hlt]
    refine fun _ => call_lend (sz_Work_c e q hq0 hq1) (by simp) rfl ?_
    simp -dsimp -implicitDefEqProofs
    refine ⟨fun h => by rw [← hf, andSz_neg h], fun h => ⟨inI_succ hlt hl, k + 1, ⟨sz_Work e q, ?_⟩⟩⟩
    rw [andSz_pos h] at hf
    have hle : sz_Work e q ≤ 1048576 := by
      rcases sz_Work_ok e q hq0 hq1 with e1 | e1
      · omega
      · omega
    exact ⟨⟨hlt, h, hle, hf⟩, by omega, by apply le_of <;> simp [AV.refs1, AV.ref0, Obj.refs1]⟩
  · simp -dsimp -implicitDefEqProofs [lt_f hge]
    rw [List.drop_of_length_le hge] at hf
    intro _
    first | simpa [foldSz] using hf | simpa [foldSz] using hf.symm
theorem toWorkS_c (xs : List Work) (hl : small_WorkS xs) : PureF Tryz.prog n_laws_toWorkS [.c (.sl 22 (xs.map Work.enc))] (.c (.sl 22 (xs.map Work.enc))) := by
  refine pure_of h_laws_toWorkS (by simp) fun hwf => ?_
  simp -dsimp -implicitDefEqProofs [c_laws_toWorkS]
  intro hlen
  have hl1 := hl.1
  refine ⟨by omega, ?_⟩
  refine loop_rule (ι := Nat) (fun k => k ≤ xs.length) (fun k => stOf [(0, .c (.sl 22 (xs.map Work.enc))), (3, .own 7 22 xs.length), (4, .c (.i k))] [(7, .row 22 (partly Work.enc [.i 0, .i 0, .i 0, .i 0, .i 0, .i 0, .i 0, .i 0, .i 0, .sl 2 [], .i 0, .i 0, .i 0, .i 0, .i 0, .i 0, .i 0, .i 0, .sl 2 [], .b false, .i 0, .sl 4 []] xs k))]) (fun k => xs.length - k) 0 (by simp) (by apply le_of <;> simp [AV.refs1, AV.ref0, Obj.refs1, partly_zero]) ?_
  rintro k hk
  rcases Nat.lt_or_ge k xs.length with hlt | hge
  · obtain ⟨e, he⟩ : ∃ e, xs[k]? = some e := ⟨_, List.getElem?_eq_getElem hlt⟩
    have hs := partly_set (f := Work.enc) (z := [.i 0, .i 0, .i 0, .i 0, .i 0, .i 0, .i 0, .i 0, .i 0, .sl 2 [], .i 0, .i 0, .i 0, .i 0, .i 0, .i 0, .i 0, .i 0, .sl 2 [], .b false, .i 0, .sl 4 []]) he
    have hd := partly_drop (f := Work.enc) (z := [.i 0, .i 0, .i 0, .i 0, .i 0, .i 0, .i 0, .i 0, .i 0, .sl 2 [], .i 0, .i 0, .i 0, .i 0, .i 0, .i 0, .i 0, .i 0, .sl 2 [], .b false, .i 0, .sl 4 []]) (n := 22) rfl hlt
    simp only [Work.enc, Lock.enc, Weir.enc, Rule.enc, Turn.enc] at hs
    simp -dsimp -implicitDefEqProofs [he, lt_t hlt]
    refine fun _ => call_pure (toWork_c e (hl.2 e (List.mem_of_getElem? he))) (by simp) rfl ?_
    simp -dsimp -implicitDefEqProofs [lt_t hlt, partly_len hk, hd, hs]
    exact ⟨hlt, inI_succ hlt hlen, k + 1, hlt, by omega, by apply le_of <;> simp [AV.refs1, AV.ref0, Obj.refs1]⟩
  · simp -dsimp -implicitDefEqProofs [lt_f hge]
    intro _
    rw [partly_all hge, List.take_of_length_le (by simp)]
theorem eqWorkS_c (es fs : List Work) : PureF Tryz.prog n_laws_eqWorkS [.c (.sl 22 (es.map Work.enc)), .c (.sl 22 (fs.map Work.enc))] (.c (.b (decide (es = fs)))) := by
  refine pure_of h_laws_eqWorkS (by simp) fun hwf => ?_
  simp -dsimp -implicitDefEqProofs [c_laws_eqWorkS]
  intro hl1 hl2
  refine ⟨fun h e => h (by rw [e]), fun hlen => ?_⟩
  have hlen' : es.length = fs.length := by omega
  refine loop_rule (ι := Nat) (fun k => k ≤ es.length ∧ es.take k = fs.take k) (fun k => stOf [(0, .c (.sl 22 (es.map Work.enc))), (1, .c (.sl 22 (fs.map Work.enc))), (5, .c (.i k))] []) (fun k => es.length - k) 0 (by simp) (by apply le_of <;> simp [AV.refs1, AV.ref0, Obj.refs1]) ?_
  rintro k ⟨hk, htk⟩
  rcases Nat.lt_or_ge k es.length with hlt | hge
  · obtain ⟨e, he⟩ : ∃ e, es[k]? = some e := ⟨_, List.getElem?_eq_getElem hlt⟩
    obtain ⟨f, hf⟩ : ∃ f, fs[k]? = some f := ⟨_, List.getElem?_eq_getElem (by omega)⟩
    simp -dsimp -implicitDefEqProofs [he, hf, lt_t hlt, lt_t (hlen' ▸ hlt)]
    intro _
    refine ⟨_, _, eqWork_c e f, by simp, .inr rfl, ?_⟩
    simp -dsimp -implicitDefEqProofs
    refine ⟨fun h => ne_of_get he hf h, fun h => ⟨inI_succ hlt hl1, k + 1, ⟨hlt, take_eq_succ he hf htk h⟩, by omega, by apply le_of <;> simp [AV.refs1, AV.ref0, Obj.refs1]⟩⟩
  · simp -dsimp -implicitDefEqProofs [lt_f hge]
    intro _
    exact eq_of_take hge hlen' htk
-- []Mover
def sz_MoverS : List Mover → Int → Int := szSS sz_Mover
def small_MoverS : List Mover → Prop := smallS Mover.small
theorem sz_MoverS_ok : SzOk sz_MoverS small_MoverS := szSS_ok sz_Mover_ok
theorem sz_MoverS_c (xs : List Mover) (l : Int) (h0 : 0 ≤ l) (h1 : l ≤ 1048576) : PureF Tryz.prog n_laws_szMoverS [.c (.sl 3 (xs.map Mover.enc)), .c (.i l)] (.c (.i (sz_MoverS xs l))) := by
  refine pure_of h_laws_szMoverS (by simp) fun hwf => ?_
  simp -dsimp -implicitDefEqProofs [c_laws_szMoverS]
  intro hl
  have hs : szS xs.length l = if l - xs.length < 0 then -1 else l - xs.length := rfl
  refine ⟨by unfold maxLen at hl; unfold inI; omega, fun h => ?_, fun h => ?_⟩
  · simp [sz_MoverS, szSS, andSz, hs, h]
  have h' : 0 ≤ l - xs.length := by omega
  have e0 : sz_MoverS xs l = foldSz sz_Mover xs (l - xs.length) := by
    have : szS xs.length l = l - xs.length := by rw [hs, if_neg (by omega)]
    simp only [sz_MoverS, szSS]
    rw [this, andSz_pos h']
  refine loop_rule (ι := Nat × Int) (fun p => p.1 ≤ xs.length ∧ 0 ≤ p.2 ∧ p.2 ≤ 1048576 ∧ foldSz sz_Mover (xs.drop p.1) p.2 = sz_MoverS xs l) (fun p => stOf [(0, .c (.sl 3 (xs.map Mover.enc))), (1, .c (.i p.2)), (5, .c (.i p.1))] []) (fun p => xs.length - p.1) (0, l - xs.length) ⟨by simp, h', by simp only; omega, by simp [e0]⟩ (by apply le_of <;> simp [AV.refs1, AV.ref0, Obj.refs1]) ?_
  rintro ⟨k, q⟩ ⟨hk, hq0, hq1, hf⟩
  simp only at hk hq0 hq1 hf
  rcases Nat.lt_or_ge k xs.length with hlt | hge
  · obtain ⟨e, he⟩ : ∃ e, xs[k]? = some e := ⟨_, List.getElem?_eq_getElem hlt⟩
    have hd : xs.drop k = e :: xs.drop (k + 1) := by
      rw [List.drop_eq_getElem_cons hlt, (List.getElem?_eq_some_iff.1 he).2]
    rw [hd, foldSz] at hf
    simp -dsimp -implicitDefEqProofs [he, lt_t hlt]
    refine fun _ => call_lend (sz_Mover_c e q hq0 hq1) (by simp) rfl ?_
    simp -dsimp -implicitDefEqProofs
    refine ⟨fun h => by rw [← hf, andSz_neg h], fun h => ⟨inI_succ hlt hl, k + 1, ⟨sz_Mover e q, ?_⟩⟩⟩
    rw [andSz_pos h] at hf
    have hle : sz_Mover e q ≤ 1048576 := by
      rcases sz_Mover_ok e q hq0 hq1 with e1 | e1
      · omega
      · omega
    exact ⟨⟨hlt, h, hle, hf⟩, by omega, by apply le_of <;> simp [AV.refs1, AV.ref0, Obj.refs1]⟩
  · simp -dsimp -implicitDefEqProofs [lt_f hge]
    rw [List.drop_of_length_le hge] at hf
    intro _
    first | simpa [foldSz] using hf | simpa [foldSz] using hf.symm
theorem toMoverS_c (xs : List Mover) (hl : small_MoverS xs) : PureF Tryz.prog n_laws_toMoverS [.c (.sl 3 (xs.map Mover.enc))] (.c (.sl 3 (xs.map Mover.enc))) := by
  refine pure_of h_laws_toMoverS (by simp) fun hwf => ?_
  simp -dsimp -implicitDefEqProofs [c_laws_toMoverS]
  intro hlen
  have hl1 := hl.1
  refine ⟨by omega, ?_⟩
  refine loop_rule (ι := Nat) (fun k => k ≤ xs.length) (fun k => stOf [(0, .c (.sl 3 (xs.map Mover.enc))), (3, .own 7 3 xs.length), (4, .c (.i k))] [(7, .row 3 (partly Mover.enc [.b false, .sl 1 [], .i 0] xs k))]) (fun k => xs.length - k) 0 (by simp) (by apply le_of <;> simp [AV.refs1, AV.ref0, Obj.refs1, partly_zero]) ?_
  rintro k hk
  rcases Nat.lt_or_ge k xs.length with hlt | hge
  · obtain ⟨e, he⟩ : ∃ e, xs[k]? = some e := ⟨_, List.getElem?_eq_getElem hlt⟩
    have hs := partly_set (f := Mover.enc) (z := [.b false, .sl 1 [], .i 0]) he
    have hd := partly_drop (f := Mover.enc) (z := [.b false, .sl 1 [], .i 0]) (n := 3) rfl hlt
    simp only [Mover.enc, Train.enc] at hs
    simp -dsimp -implicitDefEqProofs [he, lt_t hlt]
    refine fun _ => call_pure (toMover_c e (hl.2 e (List.mem_of_getElem? he))) (by simp) rfl ?_
    simp -dsimp -implicitDefEqProofs [lt_t hlt, partly_len hk, hd, hs]
    exact ⟨hlt, inI_succ hlt hlen, k + 1, hlt, by omega, by apply le_of <;> simp [AV.refs1, AV.ref0, Obj.refs1]⟩
  · simp -dsimp -implicitDefEqProofs [lt_f hge]
    intro _
    rw [partly_all hge, List.take_of_length_le (by simp)]
theorem eqMoverS_c (es fs : List Mover) : PureF Tryz.prog n_laws_eqMoverS [.c (.sl 3 (es.map Mover.enc)), .c (.sl 3 (fs.map Mover.enc))] (.c (.b (decide (es = fs)))) := by
  refine pure_of h_laws_eqMoverS (by simp) fun hwf => ?_
  simp -dsimp -implicitDefEqProofs [c_laws_eqMoverS]
  intro hl1 hl2
  refine ⟨fun h e => h (by rw [e]), fun hlen => ?_⟩
  have hlen' : es.length = fs.length := by omega
  refine loop_rule (ι := Nat) (fun k => k ≤ es.length ∧ es.take k = fs.take k) (fun k => stOf [(0, .c (.sl 3 (es.map Mover.enc))), (1, .c (.sl 3 (fs.map Mover.enc))), (5, .c (.i k))] []) (fun k => es.length - k) 0 (by simp) (by apply le_of <;> simp [AV.refs1, AV.ref0, Obj.refs1]) ?_
  rintro k ⟨hk, htk⟩
  rcases Nat.lt_or_ge k es.length with hlt | hge
  · obtain ⟨e, he⟩ : ∃ e, es[k]? = some e := ⟨_, List.getElem?_eq_getElem hlt⟩
    obtain ⟨f, hf⟩ : ∃ f, fs[k]? = some f := ⟨_, List.getElem?_eq_getElem (by omega)⟩
    simp -dsimp -implicitDefEqProofs [he, hf, lt_t hlt, lt_t (hlen' ▸ hlt)]
    intro _
    refine ⟨_, _, eqMover_c e f, by simp, .inr rfl, ?_⟩
    simp -dsimp -implicitDefEqProofs
    refine ⟨fun h => ne_of_get he hf h, fun h => ⟨inI_succ hlt hl1, k + 1, ⟨hlt, take_eq_succ he hf htk h⟩, by omega, by apply le_of <;> simp [AV.refs1, AV.ref0, Obj.refs1]⟩⟩
  · simp -dsimp -implicitDefEqProofs [lt_f hge]
    intro _
    exact eq_of_take hge hlen' htk
abbrev enc_MoverS (xs : List Mover) : List C := [.sl 3 (xs.map Mover.enc)]
-- [][]Mover
def sz_MoverSS : List (List Mover) → Int → Int := szSS sz_MoverS
def small_MoverSS : List (List Mover) → Prop := smallS small_MoverS
theorem sz_MoverSS_ok : SzOk sz_MoverSS small_MoverSS := szSS_ok sz_MoverS_ok
theorem sz_MoverSS_c (xs : List (List Mover)) (l : Int) (h0 : 0 ≤ l) (h1 : l ≤ 1048576) : PureF Tryz.prog n_laws_szMoverSS [.c (.sl 1 (xs.map enc_MoverS)), .c (.i l)] (.c (.i (sz_MoverSS xs l))) := by
  refine pure_of h_laws_szMoverSS (by simp) fun hwf => ?_
  simp -dsimp -implicitDefEqProofs [c_laws_szMoverSS]
  intro hl
  have hs : szS xs.length l = if l - xs.length < 0 then -1 else l - xs.length := rfl
  refine ⟨by unfold maxLen at hl; unfold inI; omega, fun h => ?_, fun h => ?_⟩
  · simp [sz_MoverSS, szSS, andSz, hs, h]
  have h' : 0 ≤ l - xs.length := by omega
  have e0 : sz_MoverSS xs l = foldSz sz_MoverS xs (l - xs.length) := by
    have : szS xs.length l = l - xs.length := by rw [hs, if_neg (by omega)]
    simp only [sz_MoverSS, szSS]
    rw [this, andSz_pos h']
  refine loop_rule (ι := Nat × Int) (fun p => p.1 ≤ xs.length ∧ 0 ≤ p.2 ∧ p.2 ≤ 1048576 ∧ foldSz sz_MoverS (xs.drop p.1) p.2 = sz_MoverSS xs l) (fun p => stOf [(0, .c (.sl 1 (xs.map enc_MoverS))), (1, .c (.i p.2)), (5, .c (.i p.1))] []) (fun p => xs.length - p.1) (0, l - xs.length) ⟨by simp, h', by simp only; omega, by simp [e0]⟩ (by apply le_of <;> simp [AV.refs1, AV.ref0, Obj.refs1]) ?_
  rintro ⟨k, q⟩ ⟨hk, hq0, hq1, hf⟩
  simp only at hk hq0 hq1 hf
  rcases Nat.lt_or_ge k xs.length with hlt | hge
  · obtain ⟨e, he⟩ : ∃ e, xs[k]? = some e := ⟨_, List.getElem?_eq_getElem hlt⟩
    have hd : xs.drop k = e :: xs.drop (k + 1) := by
      rw [List.drop_eq_getElem_cons hlt, (List.getElem?_eq_some_iff.1 he).2]
    rw [hd, foldSz] at hf
    simp -dsimp -implicitDefEqProofs [he, lt_t hlt]
    refine fun _ => call_lend (sz_MoverS_c e q hq0 hq1) (by simp) rfl ?_
    simp -dsimp -implicitDefEqProofs
    refine ⟨fun h => by rw [← hf, andSz_neg h], fun h => ⟨inI_succ hlt hl, k + 1, ⟨sz_MoverS e q, ?_⟩⟩⟩
    rw [andSz_pos h] at hf
    have hle : sz_MoverS e q ≤ 1048576 := by
      rcases sz_MoverS_ok e q hq0 hq1 with e1 | e1
      · omega
      · omega
    exact ⟨⟨hlt, h, hle, hf⟩, by omega, by apply le_of <;> simp [AV.refs1, AV.ref0, Obj.refs1]⟩
  · simp -dsimp -implicitDefEqProofs [lt_f hge]
    rw [List.drop_of_length_le hge] at hf
    intro _
    first | simpa [foldSz] using hf | simpa [foldSz] using hf.symm
theorem toMoverSS_c (xs : List (List Mover)) (hl : small_MoverSS xs) : PureF Tryz.prog n_laws_toMoverSS [.c (.sl 1 (xs.map enc_MoverS))] (.c (.sl 1 (xs.map enc_MoverS))) := by
  refine pure_of h_laws_toMoverSS (by simp) fun hwf => ?_
  simp -dsimp -implicitDefEqProofs [c_laws_toMoverSS]
  intro hlen
  have hl1 := hl.1
  refine ⟨by omega, ?_⟩
  refine loop_rule (ι := Nat) (fun k => k ≤ xs.length) (fun k => stOf [(0, .c (.sl 1 (xs.map enc_MoverS))), (3, .own 7 1 xs.length), (4, .c (.i k))] [(7, .row 1 (partly enc_MoverS [.sl 3 []] xs k))]) (fun k => xs.length - k) 0 (by simp) (by apply le_of <;> simp [AV.refs1, AV.ref0, Obj.refs1, partly_zero]) ?_
  rintro k hk
  rcases Nat.lt_or_ge k xs.length with hlt | hge
  · obtain ⟨e, he⟩ : ∃ e, xs[k]? = some e := ⟨_, List.getElem?_eq_getElem hlt⟩
    have hs := partly_set (f := enc_MoverS) (z := [.sl 3 []]) he
    have hd : ((partly enc_MoverS [.sl 3 []] xs k)[k]?.getD []).set 0 (.sl 3 (e.map Mover.enc)) = [.sl 3 (e.map Mover.enc)] := by
      have := partly_get (f := enc_MoverS) (z := [.sl 3 []]) (n := 1) rfl (fun _ => rfl) hlt
      obtain ⟨x, hx⟩ := List.length_eq_one_iff.1 this
      rw [hx]; rfl
    have hs2 : (partly enc_MoverS [.sl 3 []] xs k).set k [.sl 3 (e.map Mover.enc)] = partly enc_MoverS [.sl 3 []] xs (k + 1) := hs
    simp -dsimp -implicitDefEqProofs [he, lt_t hlt]
    first
      | refine fun _ => call_pure (toMoverS_c e (hl.2 e (List.mem_of_getElem? he))) (by simp) rfl ?_
      | refine fun _ => ⟨_, _, toMoverS_c e (hl.2 e (List.mem_of_getElem? he)), by simp, .inl rfl, ?_⟩
    simp -dsimp -implicitDefEqProofs [lt_t hlt, partly_len hk, hd, hs2]
    exact ⟨hlt, inI_succ hlt hlen, k + 1, hlt, by omega, by apply le_of <;> simp [AV.refs1, AV.ref0, Obj.refs1]⟩
  · simp -dsimp -implicitDefEqProofs [lt_f hge]
    intro _
    rw [partly_all hge, List.take_of_length_le (by simp)]
theorem eqMoverSS_c (es fs : List (List Mover)) : PureF Tryz.prog n_laws_eqMoverSS [.c (.sl 1 (es.map enc_MoverS)), .c (.sl 1 (fs.map enc_MoverS))] (.c (.b (decide (es = fs)))) := by
  refine pure_of h_laws_eqMoverSS (by simp) fun hwf => ?_
  simp -dsimp -implicitDefEqProofs [c_laws_eqMoverSS]
  intro hl1 hl2
  refine ⟨fun h e => h (by rw [e]), fun hlen => ?_⟩
  have hlen' : es.length = fs.length := by omega
  refine loop_rule (ι := Nat) (fun k => k ≤ es.length ∧ es.take k = fs.take k) (fun k => stOf [(0, .c (.sl 1 (es.map enc_MoverS))), (1, .c (.sl 1 (fs.map enc_MoverS))), (5, .c (.i k))] []) (fun k => es.length - k) 0 (by simp) (by apply le_of <;> simp [AV.refs1, AV.ref0, Obj.refs1]) ?_
  rintro k ⟨hk, htk⟩
  rcases Nat.lt_or_ge k es.length with hlt | hge
  · obtain ⟨e, he⟩ : ∃ e, es[k]? = some e := ⟨_, List.getElem?_eq_getElem hlt⟩
    obtain ⟨f, hf⟩ : ∃ f, fs[k]? = some f := ⟨_, List.getElem?_eq_getElem (by omega)⟩
    simp -dsimp -implicitDefEqProofs [he, hf, lt_t hlt, lt_t (hlen' ▸ hlt)]
    intro _
    refine ⟨_, _, eqMoverS_c e f, by simp, .inr rfl, ?_⟩
    simp -dsimp -implicitDefEqProofs
    refine ⟨fun h => ne_of_get he hf h, fun h => ⟨inI_succ hlt hl1, k + 1, ⟨hlt, take_eq_succ he hf htk h⟩, by omega, by apply le_of <;> simp [AV.refs1, AV.ref0, Obj.refs1]⟩⟩
  · simp -dsimp -implicitDefEqProofs [lt_f hge]
    intro _
    exact eq_of_take hge hlen' htk
structure Passing where
  Time : Int
  Work : Int
  Train : Train
  deriving DecidableEq, Inhabited
@[simp] def Passing.enc (e : Passing) : List C := [.i e.Time, .i e.Work, .b e.Train.Up, .sl 1 (e.Train.Rows.map enc_BoatS)]
-- Passing
def sz_Passing (e : Passing) (l : Int) : Int := andSz (sz_Train e.Train l) fun l => l
def Passing.small (e : Passing) : Prop := e.Train.small
theorem sz_Passing_ok : SzOk sz_Passing Passing.small := by
  intro e l h0 h1
  unfold sz_Passing
  rcases sz_Train_ok e.Train _ h0 h1 with e0 | ⟨a0, b0, s0⟩
  · exact .inl (andSz_neg (by omega))
  rw [andSz_pos a0]
  exact .inr ⟨a0, by omega, s0⟩
theorem sz_Passing_c (e : Passing) (l : Int) (h0 : 0 ≤ l) (h1 : l ≤ 1048576) : PureF Tryz.prog n_laws_szPassing [.agg (e.enc.map .c), .c (.i l)] (.c (.i (sz_Passing e l))) := by
  refine pure_of h_laws_szPassing (by simp) fun hwf => ?_
  simp -dsimp -implicitDefEqProofs [c_laws_szPassing]
  refine call_lend (sz_Train_c e.Train _ h0 h1) (by simp) rfl ?_
  simp -dsimp -implicitDefEqProofs
  refine ⟨fun h => by simp [sz_Passing, andSz_neg h], fun p0 => ?_⟩
  simp [sz_Passing, andSz_pos p0]
theorem toPassing_c (e : Passing) (hl : Passing.small e) : PureF Tryz.prog n_laws_toPassing [.agg (e.enc.map .c)] (.agg (e.enc.map .c)) := by
  refine pure_of h_laws_toPassing (by simp) fun hwf => ?_
  simp -dsimp -implicitDefEqProofs [c_laws_toPassing]
  first
    | refine call_pure (toTrain_c e.Train hl) (by simp) rfl ?_
    | refine ⟨_, _, toTrain_c e.Train hl, by simp, .inl rfl, ?_⟩
  simp -dsimp -implicitDefEqProofs
theorem eqPassing_c (a b : Passing) : PureF Tryz.prog n_laws_eqPassing [.agg (a.enc.map .c), .agg (b.enc.map .c)] (.c (.b (decide (a = b)))) := by
  refine pure_of h_laws_eqPassing (by simp) fun hwf => ?_
  obtain ⟨a0, a1, a2⟩ := a
  obtain ⟨b0, b1, b2⟩ := b
  simp -dsimp -implicitDefEqProofs [c_laws_eqPassing, Passing.mk.injEq]
  refine ⟨fun h => by simp_all, fun h0 => ?_⟩
  refine ⟨fun h => by simp_all, fun h1 => ?_⟩
  first
    | refine call_lend (eqTrain_c a2 b2) (by simp) rfl ?_
    | refine ⟨_, _, eqTrain_c a2 b2, by simp, .inr rfl, ?_⟩
  simp -dsimp -implicitDefEqProofs
  refine ⟨fun h => by simp_all, fun h2 => ?_⟩
  simp_all
-- []Passing
def sz_PassingS : List Passing → Int → Int := szSS sz_Passing
def small_PassingS : List Passing → Prop := smallS Passing.small
theorem sz_PassingS_ok : SzOk sz_PassingS small_PassingS := szSS_ok sz_Passing_ok
theorem sz_PassingS_c (xs : List Passing) (l : Int) (h0 : 0 ≤ l) (h1 : l ≤ 1048576) : PureF Tryz.prog n_laws_szPassingS [.c (.sl 4 (xs.map Passing.enc)), .c (.i l)] (.c (.i (sz_PassingS xs l))) := by
  refine pure_of h_laws_szPassingS (by simp) fun hwf => ?_
  simp -dsimp -implicitDefEqProofs [c_laws_szPassingS]
  intro hl
  have hs : szS xs.length l = if l - xs.length < 0 then -1 else l - xs.length := rfl
  refine ⟨by unfold maxLen at hl; unfold inI; omega, fun h => ?_, fun h => ?_⟩
  · simp [sz_PassingS, szSS, andSz, hs, h]
  have h' : 0 ≤ l - xs.length := by omega
  have e0 : sz_PassingS xs l = foldSz sz_Passing xs (l - xs.length) := by
    have : szS xs.length l = l - xs.length := by rw [hs, if_neg (by omega)]
    simp only [sz_PassingS, szSS]
    rw [this, andSz_pos h']
  refine loop_rule (ι := Nat × Int) (fun p => p.1 ≤ xs.length ∧ 0 ≤ p.2 ∧ p.2 ≤ 1048576 ∧ foldSz sz_Passing (xs.drop p.1) p.2 = sz_PassingS xs l) (fun p => stOf [(0, .c (.sl 4 (xs.map Passing.enc))), (1, .c (.i p.2)), (5, .c (.i p.1))] []) (fun p => xs.length - p.1) (0, l - xs.length) ⟨by simp, h', by simp only; omega, by simp [e0]⟩ (by apply le_of <;> simp [AV.refs1, AV.ref0, Obj.refs1]) ?_
  rintro ⟨k, q⟩ ⟨hk, hq0, hq1, hf⟩
  simp only at hk hq0 hq1 hf
  rcases Nat.lt_or_ge k xs.length with hlt | hge
  · obtain ⟨e, he⟩ : ∃ e, xs[k]? = some e := ⟨_, List.getElem?_eq_getElem hlt⟩
    have hd : xs.drop k = e :: xs.drop (k + 1) := by
      rw [List.drop_eq_getElem_cons hlt, (List.getElem?_eq_some_iff.1 he).2]
    rw [hd, foldSz] at hf
    simp -dsimp -implicitDefEqProofs [he, lt_t hlt]
    refine fun _ => call_lend (sz_Passing_c e q hq0 hq1) (by simp) rfl ?_
    simp -dsimp -implicitDefEqProofs
    refine ⟨fun h => by rw [← hf, andSz_neg h], fun h => ⟨inI_succ hlt hl, k + 1, ⟨sz_Passing e q, ?_⟩⟩⟩
    rw [andSz_pos h] at hf
    have hle : sz_Passing e q ≤ 1048576 := by
      rcases sz_Passing_ok e q hq0 hq1 with e1 | e1
      · omega
      · omega
    exact ⟨⟨hlt, h, hle, hf⟩, by omega, by apply le_of <;> simp [AV.refs1, AV.ref0, Obj.refs1]⟩
  · simp -dsimp -implicitDefEqProofs [lt_f hge]
    rw [List.drop_of_length_le hge] at hf
    intro _
    first | simpa [foldSz] using hf | simpa [foldSz] using hf.symm
theorem toPassingS_c (xs : List Passing) (hl : small_PassingS xs) : PureF Tryz.prog n_laws_toPassingS [.c (.sl 4 (xs.map Passing.enc))] (.c (.sl 4 (xs.map Passing.enc))) := by
  refine pure_of h_laws_toPassingS (by simp) fun hwf => ?_
  simp -dsimp -implicitDefEqProofs [c_laws_toPassingS]
  intro hlen
  have hl1 := hl.1
  refine ⟨by omega, ?_⟩
  refine loop_rule (ι := Nat) (fun k => k ≤ xs.length) (fun k => stOf [(0, .c (.sl 4 (xs.map Passing.enc))), (3, .own 7 4 xs.length), (4, .c (.i k))] [(7, .row 4 (partly Passing.enc [.i 0, .i 0, .b false, .sl 1 []] xs k))]) (fun k => xs.length - k) 0 (by simp) (by apply le_of <;> simp [AV.refs1, AV.ref0, Obj.refs1, partly_zero]) ?_
  rintro k hk
  rcases Nat.lt_or_ge k xs.length with hlt | hge
  · obtain ⟨e, he⟩ : ∃ e, xs[k]? = some e := ⟨_, List.getElem?_eq_getElem hlt⟩
    have hs := partly_set (f := Passing.enc) (z := [.i 0, .i 0, .b false, .sl 1 []]) he
    have hd := partly_drop (f := Passing.enc) (z := [.i 0, .i 0, .b false, .sl 1 []]) (n := 4) rfl hlt
    simp only [Passing.enc, Train.enc] at hs
    simp -dsimp -implicitDefEqProofs [he, lt_t hlt]
    refine fun _ => call_pure (toPassing_c e (hl.2 e (List.mem_of_getElem? he))) (by simp) rfl ?_
    simp -dsimp -implicitDefEqProofs [lt_t hlt, partly_len hk, hd, hs]
    exact ⟨hlt, inI_succ hlt hlen, k + 1, hlt, by omega, by apply le_of <;> simp [AV.refs1, AV.ref0, Obj.refs1]⟩
  · simp -dsimp -implicitDefEqProofs [lt_f hge]
    intro _
    rw [partly_all hge, List.take_of_length_le (by simp)]
theorem eqPassingS_c (es fs : List Passing) : PureF Tryz.prog n_laws_eqPassingS [.c (.sl 4 (es.map Passing.enc)), .c (.sl 4 (fs.map Passing.enc))] (.c (.b (decide (es = fs)))) := by
  refine pure_of h_laws_eqPassingS (by simp) fun hwf => ?_
  simp -dsimp -implicitDefEqProofs [c_laws_eqPassingS]
  intro hl1 hl2
  refine ⟨fun h e => h (by rw [e]), fun hlen => ?_⟩
  have hlen' : es.length = fs.length := by omega
  refine loop_rule (ι := Nat) (fun k => k ≤ es.length ∧ es.take k = fs.take k) (fun k => stOf [(0, .c (.sl 4 (es.map Passing.enc))), (1, .c (.sl 4 (fs.map Passing.enc))), (5, .c (.i k))] []) (fun k => es.length - k) 0 (by simp) (by apply le_of <;> simp [AV.refs1, AV.ref0, Obj.refs1]) ?_
  rintro k ⟨hk, htk⟩
  rcases Nat.lt_or_ge k es.length with hlt | hge
  · obtain ⟨e, he⟩ : ∃ e, es[k]? = some e := ⟨_, List.getElem?_eq_getElem hlt⟩
    obtain ⟨f, hf⟩ : ∃ f, fs[k]? = some f := ⟨_, List.getElem?_eq_getElem (by omega)⟩
    simp -dsimp -implicitDefEqProofs [he, hf, lt_t hlt, lt_t (hlen' ▸ hlt)]
    intro _
    refine ⟨_, _, eqPassing_c e f, by simp, .inr rfl, ?_⟩
    simp -dsimp -implicitDefEqProofs
    refine ⟨fun h => ne_of_get he hf h, fun h => ⟨inI_succ hlt hl1, k + 1, ⟨hlt, take_eq_succ he hf htk h⟩, by omega, by apply le_of <;> simp [AV.refs1, AV.ref0, Obj.refs1]⟩⟩
  · simp -dsimp -implicitDefEqProofs [lt_f hge]
    intro _
    exact eq_of_take hge hlen' htk
structure Waterway where
  Time : Int
  Reaches : List Reach
  Ways : List Way
  Works : List Work
  Movers : List (List Mover)
  Arrived : List Train
  Entered : List Int
  Tariff : Tariff
  Book : List Entry
  Passings : List Passing
  Start : Int
  In : Int
  Out : Int
  deriving DecidableEq
end Go.Proofs.YtmimbhooaidelaaGreat
