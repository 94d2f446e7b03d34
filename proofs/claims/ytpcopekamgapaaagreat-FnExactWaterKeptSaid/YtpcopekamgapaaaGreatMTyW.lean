/- Contracts of functions of this seat: what each answers, as plain Lean. -/
import Derived.Test.YtpcopekamgapaaaGreatMT12
set_option linter.all false
namespace Go.Proofs.YtpcopekamgapaaaGreat
open Go.RowKit

def sz_EntryS (xs : List Entry) (l : Int) : Int := szS xs.length l
def small_EntryS : List Entry → Prop := smallS fun _ => True
theorem sz_EntryS_ok : SzOk sz_EntryS small_EntryS := szS_ok'
theorem sz_EntryS_c (xs : List Entry) (l : Int) (h0 : 0 ≤ l) (h1 : l ≤ 1048576) : PureF Tryz.prog n_laws_szEntryS [.c (.sl 5 (xs.map Entry.enc)), .c (.i l)] (.c (.i (sz_EntryS xs l))) := by
  refine pure_of h_laws_szEntryS (by simp) fun hwf => ?_
  simp -dsimp -implicitDefEqProofs [c_laws_szEntryS, sz_EntryS, szS]
  intro hl
  unfold maxLen at hl
  refine ⟨by unfold inI; omega, fun h => ?_, fun h => ?_⟩ <;> intros <;> omega
theorem eqWay_c (a b : Way) : PureF Tryz.prog n_laws_eqWay [.agg (a.enc.map .c), .agg (b.enc.map .c)] (.c (.b (decide (a = b)))) := by
  refine pure_of h_laws_eqWay (by simp) fun hwf => ?_
  obtain ⟨a0, a1⟩ := a
  obtain ⟨b0, b1⟩ := b
  simp -dsimp -implicitDefEqProofs [c_laws_eqWay, Way.mk.injEq]
  refine ⟨fun h => by simp_all, fun h0 => ?_⟩
  refine ⟨fun h => by simp_all, fun h1 => ?_⟩
  simp_all
-- []Reach
def sz_ReachS : List Reach → Int → Int := szSS sz_Reach
def small_ReachS : List Reach → Prop := smallS Reach.small
theorem sz_ReachS_ok : SzOk sz_ReachS small_ReachS := szSS_ok sz_Reach_ok
theorem sz_ReachS_c (xs : List Reach) (l : Int) (h0 : 0 ≤ l) (h1 : l ≤ 1048576) : PureF Tryz.prog n_laws_szReachS [.c (.sl 3 (xs.map Reach.enc)), .c (.i l)] (.c (.i (sz_ReachS xs l))) := by
  refine pure_of h_laws_szReachS (by simp) fun hwf => ?_
  simp -dsimp -implicitDefEqProofs [c_laws_szReachS]
  intro hl
  have hs : szS xs.length l = if l - xs.length < 0 then -1 else l - xs.length := rfl
  refine ⟨by unfold maxLen at hl; unfold inI; omega, fun h => ?_, fun h => ?_⟩
  · simp [sz_ReachS, szSS, andSz, hs, h]
  have h' : 0 ≤ l - xs.length := by omega
  have e0 : sz_ReachS xs l = foldSz sz_Reach xs (l - xs.length) := by
    have : szS xs.length l = l - xs.length := by rw [hs, if_neg (by omega)]
    simp only [sz_ReachS, szSS]
    rw [this, andSz_pos h']
  refine loop_rule (ι := Nat × Int) (fun p => p.1 ≤ xs.length ∧ 0 ≤ p.2 ∧ p.2 ≤ 1048576 ∧ foldSz sz_Reach (xs.drop p.1) p.2 = sz_ReachS xs l) (fun p => stOf [(0, .c (.sl 3 (xs.map Reach.enc))), (1, .c (.i p.2)), (5, .c (.i p.1))] []) (fun p => xs.length - p.1) (0, l - xs.length) ⟨by simp, h', by simp only; omega, by simp [e0]⟩ (by apply le_of <;> simp [AV.refs1, AV.ref0, Obj.refs1]) ?_
  rintro ⟨k, q⟩ ⟨hk, hq0, hq1, hf⟩
  simp only at hk hq0 hq1 hf
  rcases Nat.lt_or_ge k xs.length with hlt | hge
  · obtain ⟨e, he⟩ : ∃ e, xs[k]? = some e := ⟨_, List.getElem?_eq_getElem hlt⟩
    have hd : xs.drop k = e :: xs.drop (k + 1) := by
      rw [List.drop_eq_getElem_cons hlt, (List.getElem?_eq_some_iff.1 he).2]
    rw [hd, foldSz] at hf
    simp -dsimp -implicitDefEqProofs [he, lt_t hlt]
    refine fun _ => call_lend (sz_Reach_c e q hq0 hq1) (by simp) rfl ?_
    simp -dsimp -implicitDefEqProofs
    refine ⟨fun h => by rw [← hf, andSz_neg h], fun h => ⟨inI_succ hlt hl, k + 1, ⟨sz_Reach e q, ?_⟩⟩⟩
    rw [andSz_pos h] at hf
    have hle : sz_Reach e q ≤ 1048576 := by
      rcases sz_Reach_ok e q hq0 hq1 with e1 | e1
      · omega
      · omega
    exact ⟨⟨hlt, h, hle, hf⟩, by omega, by apply le_of <;> simp [AV.refs1, AV.ref0, Obj.refs1]⟩
  · simp -dsimp -implicitDefEqProofs [lt_f hge]
    rw [List.drop_of_length_le hge] at hf
    intro _
    first | simpa [foldSz] using hf | simpa [foldSz] using hf.symm
theorem toReachS_c (xs : List Reach) (hl : small_ReachS xs) : PureF Tryz.prog n_laws_toReachS [.c (.sl 3 (xs.map Reach.enc))] (.c (.sl 3 (xs.map Reach.enc))) := by
  refine pure_of h_laws_toReachS (by simp) fun hwf => ?_
  simp -dsimp -implicitDefEqProofs [c_laws_toReachS]
  intro hlen
  have hl1 := hl.1
  refine ⟨by omega, ?_⟩
  refine loop_rule (ι := Nat) (fun k => k ≤ xs.length) (fun k => stOf [(0, .c (.sl 3 (xs.map Reach.enc))), (3, .own 7 3 xs.length), (4, .c (.i k))] [(7, .row 3 (partly Reach.enc [.sl 2 [], .i 0, .sl 1 []] xs k))]) (fun k => xs.length - k) 0 (by simp) (by apply le_of <;> simp [AV.refs1, AV.ref0, Obj.refs1, partly_zero]) ?_
  rintro k hk
  rcases Nat.lt_or_ge k xs.length with hlt | hge
  · obtain ⟨e, he⟩ : ∃ e, xs[k]? = some e := ⟨_, List.getElem?_eq_getElem hlt⟩
    have hs := partly_set (f := Reach.enc) (z := [.sl 2 [], .i 0, .sl 1 []]) he
    have hd := partly_drop (f := Reach.enc) (z := [.sl 2 [], .i 0, .sl 1 []]) (n := 3) rfl hlt
    simp only [Reach.enc] at hs
    simp -dsimp -implicitDefEqProofs [he, lt_t hlt]
    refine fun _ => call_pure (toReach_c e (hl.2 e (List.mem_of_getElem? he))) (by simp) rfl ?_
    simp -dsimp -implicitDefEqProofs [lt_t hlt, partly_len hk, hd, hs]
    exact ⟨hlt, inI_succ hlt hlen, k + 1, hlt, by omega, by apply le_of <;> simp [AV.refs1, AV.ref0, Obj.refs1]⟩
  · simp -dsimp -implicitDefEqProofs [lt_f hge]
    intro _
    rw [partly_all hge, List.take_of_length_le (by simp)]
theorem eqReachS_c (es fs : List Reach) : PureF Tryz.prog n_laws_eqReachS [.c (.sl 3 (es.map Reach.enc)), .c (.sl 3 (fs.map Reach.enc))] (.c (.b (decide (es = fs)))) := by
  refine pure_of h_laws_eqReachS (by simp) fun hwf => ?_
  simp -dsimp -implicitDefEqProofs [c_laws_eqReachS]
  intro hl1 hl2
  refine ⟨fun h e => h (by rw [e]), fun hlen => ?_⟩
  have hlen' : es.length = fs.length := by omega
  refine loop_rule (ι := Nat) (fun k => k ≤ es.length ∧ es.take k = fs.take k) (fun k => stOf [(0, .c (.sl 3 (es.map Reach.enc))), (1, .c (.sl 3 (fs.map Reach.enc))), (5, .c (.i k))] []) (fun k => es.length - k) 0 (by simp) (by apply le_of <;> simp [AV.refs1, AV.ref0, Obj.refs1]) ?_
  rintro k ⟨hk, htk⟩
  rcases Nat.lt_or_ge k es.length with hlt | hge
  · obtain ⟨e, he⟩ : ∃ e, es[k]? = some e := ⟨_, List.getElem?_eq_getElem hlt⟩
    obtain ⟨f, hf⟩ : ∃ f, fs[k]? = some f := ⟨_, List.getElem?_eq_getElem (by omega)⟩
    simp -dsimp -implicitDefEqProofs [he, hf, lt_t hlt, lt_t (hlen' ▸ hlt)]
    intro _
    refine ⟨_, _, eqReach_c e f, by simp, .inr rfl, ?_⟩
    simp -dsimp -implicitDefEqProofs
    refine ⟨fun h => ne_of_get he hf h, fun h => ⟨inI_succ hlt hl1, k + 1, ⟨hlt, take_eq_succ he hf htk h⟩, by omega, by apply le_of <;> simp [AV.refs1, AV.ref0, Obj.refs1]⟩⟩
  · simp -dsimp -implicitDefEqProofs [lt_f hge]
    intro _
    exact eq_of_take hge hlen' htk
-- []Way
def sz_WayS (xs : List Way) (l : Int) : Int := szS xs.length l
def small_WayS : List Way → Prop := smallS fun _ => True
theorem sz_WayS_ok : SzOk sz_WayS small_WayS := szS_ok'
theorem sz_WayS_c (xs : List Way) (l : Int) (h0 : 0 ≤ l) (h1 : l ≤ 1048576) : PureF Tryz.prog n_laws_szWayS [.c (.sl 2 (xs.map Way.enc)), .c (.i l)] (.c (.i (sz_WayS xs l))) := by
  refine pure_of h_laws_szWayS (by simp) fun hwf => ?_
  simp -dsimp -implicitDefEqProofs [c_laws_szWayS, sz_WayS, szS]
  intro hl
  unfold maxLen at hl
  refine ⟨by unfold inI; omega, fun h => ?_, fun h => ?_⟩ <;> intros <;> omega
theorem toWayS_c (xs : List Way) (hl : small_WayS xs) : PureF Tryz.prog n_laws_toWayS [.c (.sl 2 (xs.map Way.enc))] (.c (.sl 2 (xs.map Way.enc))) := by
  refine pure_of h_laws_toWayS (by simp) fun hwf => ?_
  simp -dsimp -implicitDefEqProofs [c_laws_toWayS]
  intro hlen
  have hl1 := hl.1
  refine ⟨by omega, ?_⟩
  refine loop_rule (ι := Nat) (fun k => k ≤ xs.length) (fun k => stOf [(0, .c (.sl 2 (xs.map Way.enc))), (3, .own 7 2 xs.length), (4, .c (.i k))] [(7, .row 2 (partly Way.enc [.i 0, .i 0] xs k))]) (fun k => xs.length - k) 0 (by simp) (by apply le_of <;> simp [AV.refs1, AV.ref0, Obj.refs1, partly_zero]) ?_
  rintro k hk
  rcases Nat.lt_or_ge k xs.length with hlt | hge
  · obtain ⟨e, he⟩ : ∃ e, xs[k]? = some e := ⟨_, List.getElem?_eq_getElem hlt⟩
    have hs := partly_set (f := Way.enc) (z := [.i 0, .i 0]) he
    have hd := partly_drop (f := Way.enc) (z := [.i 0, .i 0]) (n := 2) rfl hlt
    simp only [Way.enc] at hs
    simp -dsimp -implicitDefEqProofs [he, lt_t hlt]
    refine fun _ => call_pure (toWay_c e ) (by simp) rfl ?_
    simp -dsimp -implicitDefEqProofs [lt_t hlt, partly_len hk, hd, hs]
    exact ⟨hlt, inI_succ hlt hlen, k + 1, hlt, by omega, by apply le_of <;> simp [AV.refs1, AV.ref0, Obj.refs1]⟩
  · simp -dsimp -implicitDefEqProofs [lt_f hge]
    intro _
    rw [partly_all hge, List.take_of_length_le (by simp)]
theorem eqWayS_c (es fs : List Way) : PureF Tryz.prog n_laws_eqWayS [.c (.sl 2 (es.map Way.enc)), .c (.sl 2 (fs.map Way.enc))] (.c (.b (decide (es = fs)))) := by
  refine pure_of h_laws_eqWayS (by simp) fun hwf => ?_
  simp -dsimp -implicitDefEqProofs [c_laws_eqWayS]
  intro hl1 hl2
  refine ⟨fun h e => h (by rw [e]), fun hlen => ?_⟩
  have hlen' : es.length = fs.length := by omega
  refine loop_rule (ι := Nat) (fun k => k ≤ es.length ∧ es.take k = fs.take k) (fun k => stOf [(0, .c (.sl 2 (es.map Way.enc))), (1, .c (.sl 2 (fs.map Way.enc))), (5, .c (.i k))] []) (fun k => es.length - k) 0 (by simp) (by apply le_of <;> simp [AV.refs1, AV.ref0, Obj.refs1]) ?_
  rintro k ⟨hk, htk⟩
  rcases Nat.lt_or_ge k es.length with hlt | hge
  · obtain ⟨e, he⟩ : ∃ e, es[k]? = some e := ⟨_, List.getElem?_eq_getElem hlt⟩
    obtain ⟨f, hf⟩ : ∃ f, fs[k]? = some f := ⟨_, List.getElem?_eq_getElem (by omega)⟩
    simp -dsimp -implicitDefEqProofs [he, hf, lt_t hlt, lt_t (hlen' ▸ hlt)]
    intro _
    refine ⟨_, _, eqWay_c e f, by simp, .inr rfl, ?_⟩
    simp -dsimp -implicitDefEqProofs
    refine ⟨fun h => ne_of_get he hf h, fun h => ⟨inI_succ hlt hl1, k + 1, ⟨hlt, take_eq_succ he hf htk h⟩, by omega, by apply le_of <;> simp [AV.refs1, AV.ref0, Obj.refs1]⟩⟩
  · simp -dsimp -implicitDefEqProofs [lt_f hge]
    intro _
    exact eq_of_take hge hlen' htk
-- []Work
def sz_WorkS : List Work → Int → Int := szSS sz_Work
def small_WorkS : List Work → Prop := smallS Work.small
theorem sz_WorkS_ok : SzOk sz_WorkS small_WorkS := szSS_ok sz_Work_ok
theorem sz_WorkS_c (xs : List Work) (l : Int) (h0 : 0 ≤ l) (h1 : l ≤ 1048576) : PureF Tryz.prog n_laws_szWorkS [.c (.sl 22 (xs.map Work.enc)), .c (.i l)] (.c (.i (sz_WorkS xs l))) := by
  refine pure_of h_laws_szWorkS (by simp) fun hwf => ?_
  simp -dsimp -implicitDefEqProofs [c_laws_szWorkS]
  intro hl
  have hs : szS xs.length l = if l - xs.length < 0 then -1 else l - xs.length := rfl
  refine ⟨by unfold maxLen at hl; unfold inI; omega, fun h => ?_, fun h => ?_⟩
  · simp [sz_WorkS, szSS, andSz, hs, h]
  have h' : 0 ≤ l - xs.length := by omega
  have e0 : sz_WorkS xs l = foldSz sz_Work xs (l - xs.length) := by
    have : szS xs.length l = l - xs.length := by rw [hs, if_neg (by omega)]
    simp only [sz_WorkS, szSS]
    rw [this, andSz_pos h']
  refine loop_rule (ι := Nat × Int) (fun p => p.1 ≤ xs.length ∧ 0 ≤ p.2 ∧ p.2 ≤ 1048576 ∧ foldSz sz_Work (xs.drop p.1) p.2 = sz_WorkS xs l) (fun p => stOf [(0, .c (.sl 22 (xs.map Work.enc))), (1, .c (.i p.2)), (5, .c (.i p.1))] []) (fun p => xs.length - p.1) (0, l - xs.length) ⟨by simp, h', by simp only; omega, by simp [e0]⟩ (by apply le_of <;> simp [AV.refs1, AV.ref0, Obj.refs1]) ?_
  rintro ⟨k, q⟩ ⟨hk, hq0, hq1, hf⟩
  simp only at hk hq0 hq1 hf
  rcases Nat.lt_or_ge k xs.length with hlt | hge
  · obtain ⟨e, he⟩ : ∃ e, xs[k]? = some e := ⟨_, List.getElem?_eq_getElem hlt⟩
    have hd : xs.drop k = e :: xs.drop (k + 1) := by
      rw [List.drop_eq_getElem_cons hlt, (List.getElem?_eq_some_iff.1 he).2]
    rw [hd, foldSz] at hf
    simp -dsimp -implicitDefEqProofs [he, lt_t hlt]
    refine fun _ => call_lend (sz_Work_c e q hq0 hq1) (by simp) rfl ?_
    simp -dsimp -implicitDefEqProofs
    refine ⟨fun h => by rw [← hf, andSz_neg h], fun h => ⟨inI_succ hlt hl, k + 1, ⟨sz_Work e q, ?_⟩⟩⟩
    rw [andSz_pos h] at hf
    have hle : sz_Work e q ≤ 1048576 := by
      rcases sz_Work_ok e q hq0 hq1 with e1 | e1
      · omega
      · omega
    exact ⟨⟨hlt, h, hle, hf⟩, by omega, by apply le_of <;> simp [AV.refs1, AV.ref0, Obj.refs1]⟩
  · simp -dsimp -implicitDefEqProofs [lt_f hge]
    rw [List.drop_of_length_le hge] at hf
    intro _
    first | simpa [foldSz] using hf | simpa [foldSz] using hf.symm
theorem toWorkS_c (xs : List Work) (hl : small_WorkS xs) : PureF Tryz.prog n_laws_toWorkS [.c (.sl 22 (xs.map Work.enc))] (.c (.sl 22 (xs.map Work.enc))) := by
  refine pure_of h_laws_toWorkS (by simp) fun hwf => ?_
  simp -dsimp -implicitDefEqProofs [c_laws_toWorkS]
  intro hlen
  have hl1 := hl.1
  refine ⟨by omega, ?_⟩
  refine loop_rule (ι := Nat) (fun k => k ≤ xs.length) (fun k => stOf [(0, .c (.sl 22 (xs.map Work.enc))), (3, .own 7 22 xs.length), (4, .c (.i k))] [(7, .row 22 (partly Work.enc [.i 0, .i 0, .i 0, .i 0, .i 0, .i 0, .i 0, .i 0, .i 0, .sl 2 [], .i 0, .i 0, .i 0, .i 0, .i 0, .i 0, .i 0, .i 0, .sl 2 [], .b false, .i 0, .sl 4 []] xs k))]) (fun k => xs.length - k) 0 (by simp) (by apply le_of <;> simp [AV.refs1, AV.ref0, Obj.refs1, partly_zero]) ?_
  rintro k hk
  rcases Nat.lt_or_ge k xs.length with hlt | hge
  · obtain ⟨e, he⟩ : ∃ e, xs[k]? = some e := ⟨_, List.getElem?_eq_getElem hlt⟩
    have hs := partly_set (f := Work.enc) (z := [.i 0, .i 0, .i 0, .i 0, .i 0, .i 0, .i 0, .i 0, .i 0, .sl 2 [], .i 0, .i 0, .i 0, .i 0, .i 0, .i 0, .i 0, .i 0, .sl 2 [], .b false, .i 0, .sl 4 []]) he
    have hd := partly_drop (f := Work.enc) (z := [.i 0, .i 0, .i 0, .i 0, .i 0, .i 0, .i 0, .i 0, .i 0, .sl 2 [], .i 0, .i 0, .i 0, .i 0, .i 0, .i 0, .i 0, .i 0, .sl 2 [], .b false, .i 0, .sl 4 []]) (n := 22) rfl hlt
    simp only [Work.enc, Lock.enc, Weir.enc, Rule.enc, Turn.enc] at hs
    simp -dsimp -implicitDefEqProofs [he, lt_t hlt]
    refine fun _ => call_pure (toWork_c e (hl.2 e (List.mem_of_getElem? he))) (by simp) rfl ?_
    simp -dsimp -implicitDefEqProofs [lt_t hlt, partly_len hk, hd, hs]
    exact ⟨hlt, inI_succ hlt hlen, k + 1, hlt, by omega, by apply le_of <;> simp [AV.refs1, AV.ref0, Obj.refs1]⟩
  · simp -dsimp -implicitDefEqProofs [lt_f hge]
    intro _
    rw [partly_all hge, List.take_of_length_le (by simp)]
theorem eqWorkS_c (es fs : List Work) : PureF Tryz.prog n_laws_eqWorkS [.c (.sl 22 (es.map Work.enc)), .c (.sl 22 (fs.map Work.enc))] (.c (.b (decide (es = fs)))) := by
  refine pure_of h_laws_eqWorkS (by simp) fun hwf => ?_
  simp -dsimp -implicitDefEqProofs [c_laws_eqWorkS]
  intro hl1 hl2
  refine ⟨fun h e => h (by rw [e]), fun hlen => ?_⟩
  have hlen' : es.length = fs.length := by omega
  refine loop_rule (ι := Nat) (fun k => k ≤ es.length ∧ es.take k = fs.take k) (fun k => stOf [(0, .c (.sl 22 (es.map Work.enc))), (1, .c (.sl 22 (fs.map Work.enc))), (5, .c (.i k))] []) (fun k => es.length - k) 0 (by simp) (by apply le_of <;> simp [AV.refs1, AV.ref0, Obj.refs1]) ?_
  rintro k ⟨hk, htk⟩
  rcases Nat.lt_or_ge k es.length with hlt | hge
  · obtain ⟨e, he⟩ : ∃ e, es[k]? = some e := ⟨_, List.getElem?_eq_getElem hlt⟩
    obtain ⟨f, hf⟩ : ∃ f, fs[k]? = some f := ⟨_, List.getElem?_eq_getElem (by omega)⟩
    simp -dsimp -implicitDefEqProofs [he, hf, lt_t hlt, lt_t (hlen' ▸ hlt)]
    intro _
    refine ⟨_, _, eqWork_c e f, by simp, .inr rfl, ?_⟩
    simp -dsimp -implicitDefEqProofs
    refine ⟨fun h => ne_of_get he hf h, fun h => ⟨inI_succ hlt hl1, k + 1, ⟨hlt, take_eq_succ he hf htk h⟩, by omega, by apply le_of <;> simp [AV.refs1, AV.ref0, Obj.refs1]⟩⟩
  · simp -dsimp -implicitDefEqProofs [lt_f hge]
    intro _
    exact eq_of_take hge hlen' htk
-- []Mover
def sz_MoverS : List Mover → Int → Int := szSS sz_Mover
def small_MoverS : List Mover → Prop := smallS Mover.small
theorem sz_MoverS_ok : SzOk sz_MoverS small_MoverS := szSS_ok sz_Mover_ok
theorem sz_MoverS_c (xs : List Mover) (l : Int) (h0 : 0 ≤ l) (h1 : l ≤ 1048576) : PureF Tryz.prog n_laws_szMoverS [.c (.sl 3 (xs.map Mover.enc)), .c (.i l)] (.c (.i (sz_MoverS xs l))) := by
  refine pure_of h_laws_szMoverS (by simp) fun hwf => ?_
  simp -dsimp -implicitDefEqProofs [c_laws_szMoverS]
  intro hl
  have hs : szS xs.length l = if l - xs.length < 0 then -1 else l - xs.length := rfl
  refine ⟨by unfold maxLen at hl; unfold inI; omega, fun h => ?_, fun h => ?_⟩
  · simp [sz_MoverS, szSS, andSz, hs, h]
  have h' : 0 ≤ l - xs.length := by omega
  have e0 : sz_MoverS xs l = foldSz sz_Mover xs (l - xs.length) := by
    have : szS xs.length l = l - xs.length := by rw [hs, if_neg (by omega)]
    simp only [sz_MoverS, szSS]
    rw [this, andSz_pos h']
  refine loop_rule (ι := Nat × Int) (fun p => p.1 ≤ xs.length ∧ 0 ≤ p.2 ∧ p.2 ≤ 1048576 ∧ foldSz sz_Mover (xs.drop p.1) p.2 = sz_MoverS xs l) (fun p => stOf [(0, .c (.sl 3 (xs.map Mover.enc))), (1, .c (.i p.2)), (5, .c (.i p.1))] []) (fun p => xs.length - p.1) (0, l - xs.length) ⟨by simp, h', by simp only; omega, by simp [e0]⟩ (by apply le_of <;> simp [AV.refs1, AV.ref0, Obj.refs1]) ?_
  rintro ⟨k, q⟩ ⟨hk, hq0, hq1, hf⟩
  simp only at hk hq0 hq1 hf
  rcases Nat.lt_or_ge k xs.length with hlt | hge
  · obtain ⟨e, he⟩ : ∃ e, xs[k]? = some e := ⟨_, List.getElem?_eq_getElem hlt⟩
    have hd : xs.drop k = e :: xs.drop (k + 1) := by
      rw [List.drop_eq_getElem_cons hlt, (List.getElem?_eq_some_iff.1 he).2]
    rw [hd, foldSz] at hf
    simp -dsimp -implicitDefEqProofs [he, lt_t hlt]
    refine fun _ => call_lend (sz_Mover_c e q hq0 hq1) (by simp) rfl ?_
    simp -dsimp -implicitDefEqProofs
    refine ⟨fun h => by rw [← hf, andSz_neg h], fun h => ⟨inI_succ hlt hl, k + 1, ⟨sz_Mover e q, ?_⟩⟩⟩
    rw [andSz_pos h] at hf
    have hle : sz_Mover e q ≤ 1048576 := by
      rcases sz_Mover_ok e q hq0 hq1 with e1 | e1
      · omega
      · omega
    exact ⟨⟨hlt, h, hle, hf⟩, by omega, by apply le_of <;> simp [AV.refs1, AV.ref0, Obj.refs1]⟩
  · simp -dsimp -implicitDefEqProofs [lt_f hge]
    rw [List.drop_of_length_le hge] at hf
    intro _
    first | simpa [foldSz] using hf | simpa [foldSz] using hf.symm
theorem toMoverS_c (xs : List Mover) (hl : small_MoverS xs) : PureF Tryz.prog n_laws_toMoverS [.c (.sl 3 (xs.map Mover.enc))] (.c (.sl 3 (xs.map Mover.enc))) := by
  refine pure_of h_laws_toMoverS (by simp) fun hwf => ?_
  simp -dsimp -implicitDefEqProofs [c_laws_toMoverS]
  intro hlen
  have hl1 := hl.1
  refine ⟨by omega, ?_⟩
  refine loop_rule (ι := Nat) (fun k => k ≤ xs.length) (fun k => stOf [(0, .c (.sl 3 (xs.map Mover.enc))), (3, .own 7 3 xs.length), (4, .c (.i k))] [(7, .row 3 (partly Mover.enc [.b false, .sl 1 [], .i 0] xs k))]) (fun k => xs.length - k) 0 (by simp) (by apply le_of <;> simp [AV.refs1, AV.ref0, Obj.refs1, partly_zero]) ?_
  rintro k hk
  rcases Nat.lt_or_ge k xs.length with hlt | hge
  · obtain ⟨e, he⟩ : ∃ e, xs[k]? = some e := ⟨_, List.getElem?_eq_getElem hlt⟩
    have hs := partly_set (f := Mover.enc) (z := [.b false, .sl 1 [], .i 0]) he
    have hd := partly_drop (f := Mover.enc) (z := [.b false, .sl 1 [], .i 0]) (n := 3) rfl hlt
    simp only [Mover.enc, Train.enc] at hs
    simp -dsimp -implicitDefEqProofs [he, lt_t hlt]
    refine fun _ => call_pure (toMover_c e (hl.2 e (List.mem_of_getElem? he))) (by simp) rfl ?_
    simp -dsimp -implicitDefEqProofs [lt_t hlt, partly_len hk, hd, hs]
    exact ⟨hlt, inI_succ hlt hlen, k + 1, hlt, by omega, by apply le_of <;> simp [AV.refs1, AV.ref0, Obj.refs1]⟩
  · simp -dsimp -implicitDefEqProofs [lt_f hge]
    intro _
    rw [partly_all hge, List.take_of_length_le (by simp)]
theorem eqMoverS_c (es fs : List Mover) : PureF Tryz.prog n_laws_eqMoverS [.c (.sl 3 (es.map Mover.enc)), .c (.sl 3 (fs.map Mover.enc))] (.c (.b (decide (es = fs)))) := by
  refine pure_of h_laws_eqMoverS (by simp) fun hwf => ?_
  simp -dsimp -implicitDefEqProofs [c_laws_eqMoverS]
  intro hl1 hl2
  refine ⟨fun h e => h (by rw [e]), fun hlen => ?_⟩
  have hlen' : es.length = fs.length := by omega
  refine loop_rule (ι := Nat) (fun k => k ≤ es.length ∧ es.take k = fs.take k) (fun k => stOf [(0, .c (.sl 3 (es.map Mover.enc))), (1, .c (.sl 3 (fs.map Mover.enc))), (5, .c (.i k))] []) (fun k => es.length - k) 0 (by simp) (by apply le_of <;> simp [AV.refs1, AV.ref0, Obj.refs1]) ?_
  rintro k ⟨hk, htk⟩
  rcases Nat.lt_or_ge k es.length with hlt | hge
  · obtain ⟨e, he⟩ : ∃ e, es[k]? = some e := ⟨_, List.getElem?_eq_getElem hlt⟩
    obtain ⟨f, hf⟩ : ∃ f, fs[k]? = some f := ⟨_, List.getElem?_eq_getElem (by omega)⟩
    simp -dsimp -implicitDefEqProofs [he, hf, lt_t hlt, lt_t (hlen' ▸ hlt)]
    intro _
    refine ⟨_, _, eqMover_c e f, by simp, .inr rfl, ?_⟩
    simp -dsimp -implicitDefEqProofs
    refine ⟨fun h => ne_of_get he hf h, fun h => ⟨inI_succ hlt hl1, k + 1, ⟨hlt, take_eq_succ he hf htk h⟩, by omega, by apply le_of <;> simp [AV.refs1, AV.ref0, Obj.refs1]⟩⟩
  · simp -dsimp -implicitDefEqProofs [lt_f hge]
    intro _
    exact eq_of_take hge hlen' htk
abbrev enc_MoverS (xs : List Mover) : List C := [.sl 3 (xs.map Mover.enc)]
-- [][]Mover
def sz_MoverSS : List (List Mover) → Int → Int := szSS sz_MoverS
def small_MoverSS : List (List Mover) → Prop := smallS small_MoverS
theorem sz_MoverSS_ok : SzOk sz_MoverSS small_MoverSS := szSS_ok sz_MoverS_ok
theorem sz_MoverSS_c (xs : List (List Mover)) (l : Int) (h0 : 0 ≤ l) (h1 : l ≤ 1048576) : PureF Tryz.prog n_laws_szMoverSS [.c (.sl 1 (xs.map enc_MoverS)), .c (.i l)] (.c (.i (sz_MoverSS xs l))) := by
  refine pure_of h_laws_szMoverSS (by simp) fun hwf => ?_
  simp -dsimp -implicitDefEqProofs [c_laws_szMoverSS]
  intro hl
  have hs : szS xs.length l = if l - xs.length < 0 then -1 else l - xs.length := rfl
  refine ⟨by unfold maxLen at hl; unfold inI; omega, fun h => ?_, fun h => ?_⟩
  · simp [sz_MoverSS, szSS, andSz, hs, h]
  have h' : 0 ≤ l - xs.length := by omega
  have e0 : sz_MoverSS xs l = foldSz sz_MoverS xs (l - xs.length) := by
    have : szS xs.length l = l - xs.length := by rw [hs, if_neg (by omega)]
    simp only [sz_MoverSS, szSS]
    rw [this, andSz_pos h']
  refine loop_rule (ι := Nat × Int) (fun p => p.1 ≤ xs.length ∧ 0 ≤ p.2 ∧ p.2 ≤ 1048576 ∧ foldSz sz_MoverS (xs.drop p.1) p.2 = sz_MoverSS xs l) (fun p => stOf [(0, .c (.sl 1 (xs.map enc_MoverS))), (1, .c (.i p.2)), (5, .c (.i p.1))] []) (fun p => xs.length - p.1) (0, l - xs.length) ⟨by simp, h', by simp only; omega, by simp [e0]⟩ (by apply le_of <;> simp [AV.refs1, AV.ref0, Obj.refs1]) ?_
  rintro ⟨k, q⟩ ⟨hk, hq0, hq1, hf⟩
  simp only at hk hq0 hq1 hf
  rcases Nat.lt_or_ge k xs.length with hlt | hge
  · obtain ⟨e, he⟩ : ∃ e, xs[k]? = some e := ⟨_, List.getElem?_eq_getElem hlt⟩
    have hd : xs.drop k = e :: xs.drop (k + 1) := by
      rw [List.drop_eq_getElem_cons hlt, (List.getElem?_eq_some_iff.1 he).2]
    rw [hd, foldSz] at hf
    simp -dsimp -implicitDefEqProofs [he, lt_t hlt]
    refine fun _ => call_lend (sz_MoverS_c e q hq0 hq1) (by simp) rfl ?_
    simp -dsimp -implicitDefEqProofs
    refine ⟨fun h => by rw [← hf, andSz_neg h], fun h => ⟨inI_succ hlt hl, k + 1, ⟨sz_MoverS e q, ?_⟩⟩⟩
    rw [andSz_pos h] at hf
    have hle : sz_MoverS e q ≤ 1048576 := by
      rcases sz_MoverS_ok e q hq0 hq1 with e1 | e1
      · omega
      · omega
    exact ⟨⟨hlt, h, hle, hf⟩, by omega, by apply le_of <;> simp [AV.refs1, AV.ref0, Obj.refs1]⟩
  · simp -dsimp -implicitDefEqProofs [lt_f hge]
    rw [List.drop_of_length_le hge] at hf
    intro _
    first | simpa [foldSz] using hf | simpa [foldSz] using hf.symm
theorem toMoverSS_c (xs : List (List Mover)) (hl : small_MoverSS xs) : PureF Tryz.prog n_laws_toMoverSS [.c (.sl 1 (xs.map enc_MoverS))] (.c (.sl 1 (xs.map enc_MoverS))) := by
  refine pure_of h_laws_toMoverSS (by simp) fun hwf => ?_
  simp -dsimp -implicitDefEqProofs [c_laws_toMoverSS]
  intro hlen
  have hl1 := hl.1
  refine ⟨by omega, ?_⟩
  refine loop_rule (ι := Nat) (fun k => k ≤ xs.length) (fun k => stOf [(0, .c (.sl 1 (xs.map enc_MoverS))), (3, .own 7 1 xs.length), (4, .c (.i k))] [(7, .row 1 (partly enc_MoverS [.sl 3 []] xs k))]) (fun k => xs.length - k) 0 (by simp) (by apply le_of <;> simp [AV.refs1, AV.ref0, Obj.refs1, partly_zero]) ?_
  rintro k hk
  rcases Nat.lt_or_ge k xs.length with hlt | hge
  · obtain ⟨e, he⟩ : ∃ e, xs[k]? = some e := ⟨_, List.getElem?_eq_getElem hlt⟩
    have hs := partly_set (f := enc_MoverS) (z := [.sl 3 []]) he
    have hd : ((partly enc_MoverS [.sl 3 []] xs k)[k]?.getD []).set 0 (.sl 3 (e.map Mover.enc)) = [.sl 3 (e.map Mover.enc)] := by
      have := partly_get (f := enc_MoverS) (z := [.sl 3 []]) (n := 1) rfl (fun _ => rfl) hlt
      obtain ⟨x, hx⟩ := List.length_eq_one_iff.1 this
      rw [hx]; rfl
    have hs2 : (partly enc_MoverS [.sl 3 []] xs k).set k [.sl 3 (e.map Mover.enc)] = partly enc_MoverS [.sl 3 []] xs (k + 1) := hs
    simp -dsimp -implicitDefEqProofs [he, lt_t hlt]
    first
      | refine fun _ => call_pure (toMoverS_c e (hl.2 e (List.mem_of_getElem? he))) (by simp) rfl ?_
      | refine fun _ => ⟨_, _, toMoverS_c e (hl.2 e (List.mem_of_getElem? he)), by simp, .inl rfl, ?_⟩
    simp -dsimp -implicitDefEqProofs [lt_t hlt, partly_len hk, hd, hs2]
    exact ⟨hlt, inI_succ hlt hlen, k + 1, hlt, by omega, by apply le_of <;> simp [AV.refs1, AV.ref0, Obj.refs1]⟩
  · simp -dsimp -implicitDefEqProofs [lt_f hge]
    intro _
    rw [partly_all hge, List.take_of_length_le (by simp)]
theorem eqMoverSS_c (es fs : List (List Mover)) : PureF Tryz.prog n_laws_eqMoverSS [.c (.sl 1 (es.map enc_MoverS)), .c (.sl 1 (fs.map enc_MoverS))] (.c (.b (decide (es = fs)))) := by
  refine pure_of h_laws_eqMoverSS (by simp) fun hwf => ?_
  simp -dsimp -implicitDefEqProofs [c_laws_eqMoverSS]
  intro hl1 hl2
  refine ⟨fun h e => h (by rw [e]), fun hlen => ?_⟩
  have hlen' : es.length = fs.length := by omega
  refine loop_rule (ι := Nat) (fun k => k ≤ es.length ∧ es.take k = fs.take k) (fun k => stOf [(0, .c (.sl 1 (es.map enc_MoverS))), (1, .c (.sl 1 (fs.map enc_MoverS))), (5, .c (.i k))] []) (fun k => es.length - k) 0 (by simp) (by apply le_of <;> simp [AV.refs1, AV.ref0, Obj.refs1]) ?_
  rintro k ⟨hk, htk⟩
  rcases Nat.lt_or_ge k es.length with hlt | hge
  · obtain ⟨e, he⟩ : ∃ e, es[k]? = some e := ⟨_, List.getElem?_eq_getElem hlt⟩
    obtain ⟨f, hf⟩ : ∃ f, fs[k]? = some f := ⟨_, List.getElem?_eq_getElem (by omega)⟩
    simp -dsimp -implicitDefEqProofs [he, hf, lt_t hlt, lt_t (hlen' ▸ hlt)]
    intro _
    refine ⟨_, _, eqMoverS_c e f, by simp, .inr rfl, ?_⟩
    simp -dsimp -implicitDefEqProofs
    refine ⟨fun h => ne_of_get he hf h, fun h => ⟨inI_succ hlt hl1, k + 1, ⟨hlt, take_eq_succ he hf htk h⟩, by omega, by apply le_of <;> simp [AV.refs1, AV.ref0, Obj.refs1]⟩⟩
  · simp -dsimp -implicitDefEqProofs [lt_f hge]
    intro _
    exact eq_of_take hge hlen' htk
structure Passing where
  Time : Int
  Work : Int
  Train : Train
  deriving DecidableEq, Inhabited
@[simp] def Passing.enc (e : Passing) : List C := [.i e.Time, .i e.Work, .b e.Train.Up, .sl 1 (e.Train.Rows.map enc_BoatS)]
-- Passing
def sz_Passing (e : Passing) (l : Int) : Int := andSz (sz_Train e.Train l) fun l => l
def Passing.small (e : Passing) : Prop := e.Train.small
theorem sz_Passing_ok : SzOk sz_Passing Passing.small := by
  intro e l h0 h1
  unfold sz_Passing
  rcases sz_Train_ok e.Train _ h0 h1 with e0 | ⟨a0, b0, s0⟩
  · exact .inl (andSz_neg (by omega))
  rw [andSz_pos a0]
  exact .inr ⟨a0, by omega, s0⟩
theorem sz_Passing_c (e : Passing) (l : Int) (h0 : 0 ≤ l) (h1 : l ≤ 1048576) : PureF Tryz.prog n_laws_szPassing [.agg (e.enc.map .c), .c (.i l)] (.c (.i (sz_Passing e l))) := by
  refine pure_of h_laws_szPassing (by simp) fun hwf => ?_
  simp -dsimp -implicitDefEqProofs [c_laws_szPassing]
  refine call_lend (sz_Train_c e.Train _ h0 h1) (by simp) rfl ?_
  simp -dsimp -implicitDefEqProofs
  refine ⟨fun h => by simp [sz_Passing, andSz_neg h], fun p0 => ?_⟩
  simp [sz_Passing, andSz_pos p0]
theorem toPassing_c (e : Passing) (hl : Passing.small e) : PureF Tryz.prog n_laws_toPassing [.agg (e.enc.map .c)] (.agg (e.enc.map .c)) := by
  refine pure_of h_laws_toPassing (by simp) fun hwf => ?_
  simp -dsimp -implicitDefEqProofs [c_laws_toPassing]
  first
    | refine call_pure (toTrain_c e.Train hl) (by simp) rfl ?_
    | refine ⟨_, _, toTrain_c e.Train hl, by simp, .inl rfl, ?_⟩
  simp -dsimp -implicitDefEqProofs
theorem eqPassing_c (a b : Passing) : PureF Tryz.prog n_laws_eqPassing [.agg (a.enc.map .c), .agg (b.enc.map .c)] (.c (.b (decide (a = b)))) := by
  refine pure_of h_laws_eqPassing (by simp) fun hwf => ?_
  obtain ⟨a0, a1, a2⟩ := a
  obtain ⟨b0, b1, b2⟩ := b
  simp -dsimp -implicitDefEqProofs [c_laws_eqPassing, Passing.mk.injEq]
  refine ⟨fun h => by simp_all, fun h0 => ?_⟩
  refine ⟨fun h => by simp_all, fun h1 => ?_⟩
  first
    | refine call_lend (eqTrain_c a2 b2) (by simp) rfl ?_
    | refine ⟨_, _, eqTrain_c a2 b2, by simp, .inr rfl, ?_⟩
  simp -dsimp -implicitDefEqProofs
  refine ⟨fun h => by simp_all, fun h2 => ?_⟩
  simp_all
-- []Passing
def sz_PassingS : List Passing → Int → Int := szSS sz_Passing
def small_PassingS : List Passing → Prop := smallS Passing.small
theorem sz_PassingS_ok : SzOk sz_PassingS small_PassingS := szSS_ok sz_Passing_ok
theorem sz_PassingS_c (xs : List Passing) (l : Int) (h0 : 0 ≤ l) (h1 : l ≤ 1048576) : PureF Tryz.prog n_laws_szPassingS [.c (.sl 4 (xs.map Passing.enc)), .c (.i l)] (.c (.i (sz_PassingS xs l))) := by
  refine pure_of h_laws_szPassingS (by simp) fun hwf => ?_
  simp -dsimp -implicitDefEqProofs [c_laws_szPassingS]
  intro hl
  have hs : szS xs.length l = if l - xs.length < 0 then -1 else l - xs.length := rfl
  refine ⟨by unfold maxLen at hl; unfold inI; omega, fun h => ?_, fun h => ?_⟩
  · simp [sz_PassingS, szSS, andSz, hs, h]
  have h' : 0 ≤ l - xs.length := by omega
  have e0 : sz_PassingS xs l = foldSz sz_Passing xs (l - xs.length) := by
    have : szS xs.length l = l - xs.length := by rw [hs, if_neg (by omega)]
    simp only [sz_PassingS, szSS]
    rw [this, andSz_pos h']
  refine loop_rule (ι := Nat × Int) (fun p => p.1 ≤ xs.length ∧ 0 ≤ p.2 ∧ p.2 ≤ 1048576 ∧ foldSz sz_Passing (xs.drop p.1) p.2 = sz_PassingS xs l) (fun p => stOf [(0, .c (.sl 4 (xs.map Passing.enc))), (1, .c (.i p.2)), (5, .c (.i p.1))] []) (fun p => xs.length - p.1) (0, l - xs.length) ⟨by simp, h', by simp only; omega, by simp [e0]⟩ (by apply le_of <;> simp [AV.refs1, AV.ref0, Obj.refs1]) ?_
  rintro ⟨k, q⟩ ⟨hk, hq0, hq1, hf⟩
  simp only at hk hq0 hq1 hf
  rcases Nat.lt_or_ge k xs.length with hlt | hge
  · obtain ⟨e, he⟩ : ∃ e, xs[k]? = some e := ⟨_, List.getElem?_eq_getElem hlt⟩
    have hd : xs.drop k = e :: xs.drop (k + 1) := by
      rw [List.drop_eq_getElem_cons hlt, (List.getElem?_eq_some_iff.1 he).2]
    rw [hd, foldSz] at hf
    simp -dsimp -implicitDefEqProofs [he, lt_t hlt]
    refine fun _ => call_lend (sz_Passing_c e q hq0 hq1) (by simp) rfl ?_
    simp -dsimp -implicitDefEqProofs
    refine ⟨fun h => by rw [← hf, andSz_neg h], fun h => ⟨inI_succ hlt hl, k + 1, ⟨sz_Passing e q, ?_⟩⟩⟩
    rw [andSz_pos h] at hf
    have hle : sz_Passing e q ≤ 1048576 := by
      rcases sz_Passing_ok e q hq0 hq1 with e1 | e1
      · omega
      · omega
    exact ⟨⟨hlt, h, hle, hf⟩, by omega, by apply le_of <;> simp [AV.refs1, AV.ref0, Obj.refs1]⟩
  · simp -dsimp -implicitDefEqProofs [lt_f hge]
    rw [List.drop_of_length_le hge] at hf
    intro _
    first | simpa [foldSz] using hf | simpa [foldSz] using hf.symm
theorem toPassingS_c (xs : List Passing) (hl : small_PassingS xs) : PureF Tryz.prog n_laws_toPassingS [.c (.sl 4 (xs.map Passing.enc))] (.c (.sl 4 (xs.map Passing.enc))) := by
  refine pure_of h_laws_toPassingS (by simp) fun hwf => ?_
  simp -dsimp -implicitDefEqProofs [c_laws_toPassingS]
  intro hlen
  have hl1 := hl.1
  refine ⟨by omega, ?_⟩
  refine loop_rule (ι := Nat) (fun k => k ≤ xs.length) (fun k => stOf [(0, .c (.sl 4 (xs.map Passing.enc))), (3, .own 7 4 xs.length), (4, .c (.i k))] [(7, .row 4 (partly Passing.enc [.i 0, .i 0, .b false, .sl 1 []] xs k))]) (fun k => xs.length - k) 0 (by simp) (by apply le_of <;> simp [AV.refs1, AV.ref0, Obj.refs1, partly_zero]) ?_
  rintro k hk
  rcases Nat.lt_or_ge k xs.length with hlt | hge
  · obtain ⟨e, he⟩ : ∃ e, xs[k]? = some e := ⟨_, List.getElem?_eq_getElem hlt⟩
    have hs := partly_set (f := Passing.enc) (z := [.i 0, .i 0, .b false, .sl 1 []]) he
    have hd := partly_drop (f := Passing.enc) (z := [.i 0, .i 0, .b false, .sl 1 []]) (n := 4) rfl hlt
    simp only [Passing.enc, Train.enc] at hs
    simp -dsimp -implicitDefEqProofs [he, lt_t hlt]
    refine fun _ => call_pure (toPassing_c e (hl.2 e (List.mem_of_getElem? he))) (by simp) rfl ?_
    simp -dsimp -implicitDefEqProofs [lt_t hlt, partly_len hk, hd, hs]
    exact ⟨hlt, inI_succ hlt hlen, k + 1, hlt, by omega, by apply le_of <;> simp [AV.refs1, AV.ref0, Obj.refs1]⟩
  · simp -dsimp -implicitDefEqProofs [lt_f hge]
    intro _
    rw [partly_all hge, List.take_of_length_le (by simp)]
theorem eqPassingS_c (es fs : List Passing) : PureF Tryz.prog n_laws_eqPassingS [.c (.sl 4 (es.map Passing.enc)), .c (.sl 4 (fs.map Passing.enc))] (.c (.b (decide (es = fs)))) := by
  refine pure_of h_laws_eqPassingS (by simp) fun hwf => ?_
  simp -dsimp -implicitDefEqProofs [c_laws_eqPassingS]
  intro hl1 hl2
  refine ⟨fun h e => h (by rw [e]), fun hlen => ?_⟩
  have hlen' : es.length = fs.length := by omega
  refine loop_rule (ι := Nat) (fun k => k ≤ es.length ∧ es.take k = fs.take k) (fun k => stOf [(0, .c (.sl 4 (es.map Passing.enc))), (1, .c (.sl 4 (fs.map Passing.enc))), (5, .c (.i k))] []) (fun k => es.length - k) 0 (by simp) (by apply le_of <;> simp [AV.refs1, AV.ref0, Obj.refs1]) ?_
  rintro k ⟨hk, htk⟩
  rcases Nat.lt_or_ge k es.length with hlt | hge
  · obtain ⟨e, he⟩ : ∃ e, es[k]? = some e := ⟨_, List.getElem?_eq_getElem hlt⟩
    obtain ⟨f, hf⟩ : ∃ f, fs[k]? = some f := ⟨_, List.getElem?_eq_getElem (by omega)⟩
    simp -dsimp -implicitDefEqProofs [he, hf, lt_t hlt, lt_t (hlen' ▸ hlt)]
    intro _
    refine ⟨_, _, eqPassing_c e f, by simp, .inr rfl, ?_⟩
    simp -dsimp -implicitDefEqProofs
    refine ⟨fun h => ne_of_get he hf h, fun h => ⟨inI_succ hlt hl1, k + 1, ⟨hlt, take_eq_succ he hf htk h⟩, by omega, by apply le_of <;> simp [AV.refs1, AV.ref0, Obj.refs1]⟩⟩
  · simp -dsimp -implicitDefEqProofs [lt_f hge]
    intro _
    exact eq_of_take hge hlen' htk
structure Waterway where
  Time : Int
  Reaches : List Reach
  Ways : List Way
  Works : List Work
  Movers : List (List Mover)
  Arrived : List Train
  Entered : List Int
  Tariff : Tariff
  Book : List Entry
  Passings : List Passing
  Start : Int
  In : Int
  Out : Int
  deriving DecidableEq
@[simp] def Waterway.enc (e : Waterway) : List C := [.i e.Time, .sl 3 (e.Reaches.map Reach.enc), .sl 2 (e.Ways.map Way.enc), .sl 22 (e.Works.map Work.enc), .sl 1 (e.Movers.map enc_MoverS), .sl 2 (e.Arrived.map Train.enc), .sl 1 (e.Entered.map ienc), .i e.Tariff.Base, .i e.Tariff.PerArea, .sl 1 (e.Tariff.PerClass.map ienc), .sl 1 (e.Tariff.Weights.map ienc), .sl 5 (e.Book.map Entry.enc), .sl 4 (e.Passings.map Passing.enc), .i e.Start, .i e.In, .i e.Out]
-- Waterway
def sz_Waterway (e : Waterway) (l : Int) : Int := andSz (sz_ReachS e.Reaches l) fun l => andSz (sz_WayS e.Ways l) fun l => andSz (sz_WorkS e.Works l) fun l => andSz (sz_MoverSS e.Movers l) fun l => andSz (sz_TrainS e.Arrived l) fun l => andSz (sz_IntS e.Entered l) fun l => andSz (sz_Tariff e.Tariff l) fun l => andSz (sz_EntryS e.Book l) fun l => andSz (sz_PassingS e.Passings l) fun l => l
def Waterway.small (e : Waterway) : Prop := small_ReachS e.Reaches ∧ small_WayS e.Ways ∧ small_WorkS e.Works ∧ small_MoverSS e.Movers ∧ small_TrainS e.Arrived ∧ small_IntS e.Entered ∧ e.Tariff.small ∧ small_EntryS e.Book ∧ small_PassingS e.Passings
theorem sz_Waterway_ok : SzOk sz_Waterway Waterway.small := by
  intro e l h0 h1
  unfold sz_Waterway
  rcases sz_ReachS_ok e.Reaches _ h0 h1 with e0 | ⟨a0, b0, s0⟩
  · exact .inl (andSz_neg (by omega))
  rw [andSz_pos a0]
  rcases sz_WayS_ok e.Ways _ a0 (by omega) with e1 | ⟨a1, b1, s1⟩
  · exact .inl (andSz_neg (by omega))
  rw [andSz_pos a1]
  rcases sz_WorkS_ok e.Works _ a1 (by omega) with e2 | ⟨a2, b2, s2⟩
  · exact .inl (andSz_neg (by omega))
  rw [andSz_pos a2]
  rcases sz_MoverSS_ok e.Movers _ a2 (by omega) with e3 | ⟨a3, b3, s3⟩
  · exact .inl (andSz_neg (by omega))
  rw [andSz_pos a3]
  rcases sz_TrainS_ok e.Arrived _ a3 (by omega) with e4 | ⟨a4, b4, s4⟩
  · exact .inl (andSz_neg (by omega))
  rw [andSz_pos a4]
  rcases sz_IntS_ok e.Entered _ a4 (by omega) with e5 | ⟨a5, b5, s5⟩
  · exact .inl (andSz_neg (by omega))
  rw [andSz_pos a5]
  rcases sz_Tariff_ok e.Tariff _ a5 (by omega) with e6 | ⟨a6, b6, s6⟩
  · exact .inl (andSz_neg (by omega))
  rw [andSz_pos a6]
  rcases sz_EntryS_ok e.Book _ a6 (by omega) with e7 | ⟨a7, b7, s7⟩
  · exact .inl (andSz_neg (by omega))
  rw [andSz_pos a7]
  rcases sz_PassingS_ok e.Passings _ a7 (by omega) with e8 | ⟨a8, b8, s8⟩
  · exact .inl (andSz_neg (by omega))
  rw [andSz_pos a8]
  exact .inr ⟨a8, by omega, s0, s1, s2, s3, s4, s5, s6, s7, s8⟩
theorem sz_Waterway_c (e : Waterway) (l : Int) (h0 : 0 ≤ l) (h1 : l ≤ 1048576) : PureF Tryz.prog n_laws_szWaterway [.agg (e.enc.map .c), .c (.i l)] (.c (.i (sz_Waterway e l))) := by
  refine pure_of h_laws_szWaterway (by simp) fun hwf => ?_
  simp -dsimp -implicitDefEqProofs [c_laws_szWaterway]
  refine call_lend (sz_ReachS_c e.Reaches _ h0 h1) (by simp) rfl ?_
  simp -dsimp -implicitDefEqProofs
  refine ⟨fun h => by simp [sz_Waterway, andSz_neg h], fun p0 => ?_⟩
  have q0 := sz_le sz_ReachS_ok e.Reaches h0 h1 p0
  refine call_lend (sz_WayS_c e.Ways _ p0 q0) (by simp) rfl ?_
  simp -dsimp -implicitDefEqProofs
  refine ⟨fun h => by simp [sz_Waterway, andSz_pos p0, andSz_neg h], fun p1 => ?_⟩
  have q1 := sz_le sz_WayS_ok e.Ways p0 q0 p1
  refine call_lend (sz_WorkS_c e.Works _ p1 q1) (by simp) rfl ?_
  simp -dsimp -implicitDefEqProofs
  refine ⟨fun h => by simp [sz_Waterway, andSz_pos p0, andSz_pos p1, andSz_neg h], fun p2 => ?_⟩
  have q2 := sz_le sz_WorkS_ok e.Works p1 q1 p2
  refine call_lend (sz_MoverSS_c e.Movers _ p2 q2) (by simp) rfl ?_
  simp -dsimp -implicitDefEqProofs
  refine ⟨fun h => by simp [sz_Waterway, andSz_pos p0, andSz_pos p1, andSz_pos p2, andSz_neg h], fun p3 => ?_⟩
  have q3 := sz_le sz_MoverSS_ok e.Movers p2 q2 p3
  refine call_lend (sz_TrainS_c e.Arrived _ p3 q3) (by simp) rfl ?_
  simp -dsimp -implicitDefEqProofs
  refine ⟨fun h => by simp [sz_Waterway, andSz_pos p0, andSz_pos p1, andSz_pos p2, andSz_pos p3, andSz_neg h], fun p4 => ?_⟩
  have q4 := sz_le sz_TrainS_ok e.Arrived p3 q3 p4
  refine call_lend (sz_IntS_c e.Entered _ p4 q4) (by simp) rfl ?_
  simp -dsimp -implicitDefEqProofs
  refine ⟨fun h => by simp [sz_Waterway, andSz_pos p0, andSz_pos p1, andSz_pos p2, andSz_pos p3, andSz_pos p4, andSz_neg h], fun p5 => ?_⟩
  have q5 := sz_le sz_IntS_ok e.Entered p4 q4 p5
  refine call_lend (sz_Tariff_c e.Tariff _ p5 q5) (by simp) rfl ?_
  simp -dsimp -implicitDefEqProofs
  refine ⟨fun h => by simp [sz_Waterway, andSz_pos p0, andSz_pos p1, andSz_pos p2, andSz_pos p3, andSz_pos p4, andSz_pos p5, andSz_neg h], fun p6 => ?_⟩
  have q6 := sz_le sz_Tariff_ok e.Tariff p5 q5 p6
  refine call_lend (sz_EntryS_c e.Book _ p6 q6) (by simp) rfl ?_
  simp -dsimp -implicitDefEqProofs
  refine ⟨fun h => by simp [sz_Waterway, andSz_pos p0, andSz_pos p1, andSz_pos p2, andSz_pos p3, andSz_pos p4, andSz_pos p5, andSz_pos p6, andSz_neg h], fun p7 => ?_⟩
  have q7 := sz_le sz_EntryS_ok e.Book p6 q6 p7
  refine call_lend (sz_PassingS_c e.Passings _ p7 q7) (by simp) rfl ?_
  simp -dsimp -implicitDefEqProofs
  refine ⟨fun h => by simp [sz_Waterway, andSz_pos p0, andSz_pos p1, andSz_pos p2, andSz_pos p3, andSz_pos p4, andSz_pos p5, andSz_pos p6, andSz_pos p7, andSz_neg h], fun p8 => ?_⟩
  simp [sz_Waterway, andSz_pos p0, andSz_pos p1, andSz_pos p2, andSz_pos p3, andSz_pos p4, andSz_pos p5, andSz_pos p6, andSz_pos p7, andSz_pos p8]
theorem toWaterway_c (e : Waterway) (hl : Waterway.small e) : PureF Tryz.prog n_laws_toWaterway [.agg (e.enc.map .c)] (.agg (e.enc.map .c)) := by
  refine pure_of h_laws_toWaterway (by simp) fun hwf => ?_
  simp -dsimp -implicitDefEqProofs [c_laws_toWaterway]
  first
    | refine call_pure (toReachS_c e.Reaches (hl.1)) (by simp) rfl ?_
    | refine ⟨_, _, toReachS_c e.Reaches (hl.1), by simp, .inl rfl, ?_⟩
  simp -dsimp -implicitDefEqProofs
  first
    | refine call_pure (toWayS_c e.Ways (hl.2.1)) (by simp) rfl ?_
    | refine ⟨_, _, toWayS_c e.Ways (hl.2.1), by simp, .inl rfl, ?_⟩
  simp -dsimp -implicitDefEqProofs
  first
    | refine call_pure (toWorkS_c e.Works (hl.2.2.1)) (by simp) rfl ?_
    | refine ⟨_, _, toWorkS_c e.Works (hl.2.2.1), by simp, .inl rfl, ?_⟩
  simp -dsimp -implicitDefEqProofs
  first
    | refine call_pure (toMoverSS_c e.Movers (hl.2.2.2.1)) (by simp) rfl ?_
    | refine ⟨_, _, toMoverSS_c e.Movers (hl.2.2.2.1), by simp, .inl rfl, ?_⟩
  simp -dsimp -implicitDefEqProofs
  first
    | refine call_pure (toTrainS_c e.Arrived (hl.2.2.2.2.1)) (by simp) rfl ?_
    | refine ⟨_, _, toTrainS_c e.Arrived (hl.2.2.2.2.1), by simp, .inl rfl, ?_⟩
  simp -dsimp -implicitDefEqProofs
  first
    | refine call_pure (toIntS_c e.Entered (hl.2.2.2.2.2.1.1)) (by simp) rfl ?_
    | refine ⟨_, _, toIntS_c e.Entered (hl.2.2.2.2.2.1.1), by simp, .inl rfl, ?_⟩
  simp -dsimp -implicitDefEqProofs
  first
    | refine call_pure (toTariff_c e.Tariff (hl.2.2.2.2.2.2.1)) (by simp) rfl ?_
    | refine ⟨_, _, toTariff_c e.Tariff (hl.2.2.2.2.2.2.1), by simp, .inl rfl, ?_⟩
  simp -dsimp -implicitDefEqProofs
  first
    | refine call_pure (toEntryS_c e.Book (hl.2.2.2.2.2.2.2.1.1)) (by simp) rfl ?_
    | refine ⟨_, _, toEntryS_c e.Book (hl.2.2.2.2.2.2.2.1.1), by simp, .inl rfl, ?_⟩
  simp -dsimp -implicitDefEqProofs
  first
    | refine call_pure (toPassingS_c e.Passings (hl.2.2.2.2.2.2.2.2)) (by simp) rfl ?_
    | refine ⟨_, _, toPassingS_c e.Passings (hl.2.2.2.2.2.2.2.2), by simp, .inl rfl, ?_⟩
  simp -dsimp -implicitDefEqProofs
theorem eqWaterway_c (a b : Waterway) : PureF Tryz.prog n_laws_eqWaterway [.agg (a.enc.map .c), .agg (b.enc.map .c)] (.c (.b (decide (a = b)))) := by
  refine pure_of h_laws_eqWaterway (by simp) fun hwf => ?_
  obtain ⟨a0, a1, a2, a3, a4, a5, a6, a7, a8, a9, a10, a11, a12⟩ := a
  obtain ⟨b0, b1, b2, b3, b4, b5, b6, b7, b8, b9, b10, b11, b12⟩ := b
  simp -dsimp -implicitDefEqProofs [c_laws_eqWaterway, Waterway.mk.injEq]
  refine ⟨fun h => by simp_all, fun h0 => ?_⟩
  first
    | refine call_lend (eqReachS_c a1 b1) (by simp) rfl ?_
    | refine ⟨_, _, eqReachS_c a1 b1, by simp, .inr rfl, ?_⟩
  simp -dsimp -implicitDefEqProofs
  refine ⟨fun h => by simp_all, fun h1 => ?_⟩
  first
    | refine call_lend (eqWayS_c a2 b2) (by simp) rfl ?_
    | refine ⟨_, _, eqWayS_c a2 b2, by simp, .inr rfl, ?_⟩
  simp -dsimp -implicitDefEqProofs
  refine ⟨fun h => by simp_all, fun h2 => ?_⟩
  first
    | refine call_lend (eqWorkS_c a3 b3) (by simp) rfl ?_
    | refine ⟨_, _, eqWorkS_c a3 b3, by simp, .inr rfl, ?_⟩
  simp -dsimp -implicitDefEqProofs
  refine ⟨fun h => by simp_all, fun h3 => ?_⟩
  first
    | refine call_lend (eqMoverSS_c a4 b4) (by simp) rfl ?_
    | refine ⟨_, _, eqMoverSS_c a4 b4, by simp, .inr rfl, ?_⟩
  simp -dsimp -implicitDefEqProofs
  refine ⟨fun h => by simp_all, fun h4 => ?_⟩
  first
    | refine call_lend (eqTrainS_c a5 b5) (by simp) rfl ?_
    | refine ⟨_, _, eqTrainS_c a5 b5, by simp, .inr rfl, ?_⟩
  simp -dsimp -implicitDefEqProofs
  refine ⟨fun h => by simp_all, fun h5 => ?_⟩
  first
    | refine call_lend (eqIntS_c a6 b6) (by simp) rfl ?_
    | refine ⟨_, _, eqIntS_c a6 b6, by simp, .inr rfl, ?_⟩
  simp -dsimp -implicitDefEqProofs
  refine ⟨fun h => by simp_all, fun h6 => ?_⟩
  first
    | refine call_lend (eqTariff_c a7 b7) (by simp) rfl ?_
    | refine ⟨_, _, eqTariff_c a7 b7, by simp, .inr rfl, ?_⟩
  simp -dsimp -implicitDefEqProofs
  refine ⟨fun h => by simp_all, fun h7 => ?_⟩
  first
    | refine call_lend (eqEntryS_c a8 b8) (by simp) rfl ?_
    | refine ⟨_, _, eqEntryS_c a8 b8, by simp, .inr rfl, ?_⟩
  simp -dsimp -implicitDefEqProofs
  refine ⟨fun h => by simp_all, fun h8 => ?_⟩
  first
    | refine call_lend (eqPassingS_c a9 b9) (by simp) rfl ?_
    | refine ⟨_, _, eqPassingS_c a9 b9, by simp, .inr rfl, ?_⟩
  simp -dsimp -implicitDefEqProofs
  refine ⟨fun h => by simp_all, fun h9 => ?_⟩
  refine ⟨fun h => by simp_all, fun h10 => ?_⟩
  refine ⟨fun h => by simp_all, fun h11 => ?_⟩
  refine ⟨fun h => by simp_all, fun h12 => ?_⟩
  simp_all

end Go.Proofs.YtpcopekamgapaaaGreat
