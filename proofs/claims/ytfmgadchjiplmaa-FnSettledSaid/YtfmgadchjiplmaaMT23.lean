/- Contracts of functions of this seat: what each answers, as plain Lean. -/
import Derived.Test.YtfmgadchjiplmaaMT9
import Derived.Test.YtfmgadchjiplmaaMA7
set_option linter.all false
namespace Go.Proofs.Ytfmgadchjiplmaa
open Go.RowKit

/-! Draws: the cursor. -/
theorem iand_le {a m : Int} (h0 : 0 ≤ m) (h1 : m ≤ 9223372036854775807) : 0 ≤ iand a m ∧ iand a m ≤ m := by
  unfold iand
  have h2 : (BitVec.ofInt 64 m).toNat = m.toNat := by
    rw [BitVec.toNat_ofInt, Int.emod_eq_of_lt h0 (by omega)]
  have h3 : (BitVec.ofInt 64 a &&& BitVec.ofInt 64 m).toNat ≤ m.toNat := by rw [BitVec.toNat_and, h2]; exact Nat.and_le_right
  rw [wrap_inI (inI_of (by omega) (by omega))]
  omega
def nenc (n : Nat) : List C := [.u n]
def hNext (h : Int) : Int := IntKind.i64.wrap (IntKind.i64.wrap (h * 6364136223846793005) + 1442695040888963407)
def hVal (h : Int) : Int := iand (ixor (ishr (hNext h) 33) (ishr (hNext h) 45)) 255
def curC (code : List UInt8) (p : Nat × Int) : List C := [.sl 1 (code.map uenc), .i p.1, .i p.2]
def byteN (code : List UInt8) (p : Nat × Int) : Nat × Int := (if p.1 < code.length then p.1 + 1 else p.1, hNext p.2)
def byteV (code : List UInt8) (p : Nat × Int) : Int :=
  match code[p.1]? with
  | some b => iand (hVal p.2 + b.toNat) 255
  | none => hVal p.2
theorem byteN_ok {code : List UInt8} {p : Nat × Int} (h : p.1 ≤ code.length) : (byteN code p).1 ≤ code.length := by
  unfold byteN; dsimp only; split <;> omega
theorem byteV_rng (code : List UInt8) (p : Nat × Int) : 0 ≤ byteV code p ∧ byteV code p ≤ 255 := by
  unfold byteV
  split
  · exact iand_le (by omega) (by omega)
  · exact iand_le (by omega) (by omega)
theorem hVal_rng (h : Int) : 0 ≤ hVal h ∧ hVal h ≤ 255 := iand_le (by omega) (by omega)
theorem u8_lt (b : UInt8) : b.toNat ≤ 255 := by have := b.toNat_lt; omega
theorem l01Byte_c (code : List UInt8) (p : Nat × Int) (hp : p.1 ≤ code.length) : CurF Try.prog n_spec_l01Byte (curC code p) (curC code (byteN code p)) [] (.c (.i (byteV code p))) := by
  refine cur_of h_spec_l01Byte (by simp) fun hwf hwf2 => ?_
  cases hb : code[p.1]? with
  | none =>
    have hge : code.length ≤ p.1 := by simpa using hb
    have hnl : (p.1 < code.length) = False := by simp; omega
    simp -dsimp -implicitDefEqProofs [c_spec_l01Byte, curC, hnl]
    intro _
    simp [byteN, byteV, hNext, hVal, hb, hnl]
  | some b =>
    have hlt : p.1 < code.length := (List.getElem?_eq_some_iff.1 hb).1
    have hr := hVal_rng p.2
    have g1 := (List.getElem?_eq_some_iff.1 hb).2
    have h8 := u8_lt b
    simp only [hVal, hNext] at hr
    simp -dsimp -implicitDefEqProofs [c_spec_l01Byte, curC, hb, g1, hlt, uenc]
    refine fun hl => ⟨by unfold inI; omega, by unfold maxLen at hl; unfold inI; omega, ?_⟩
    simp [byteN, byteV, hNext, hVal, hb, g1, hlt]
def belowN (code : List UInt8) (n : Int) (p : Nat × Int) : Nat × Int :=
  if n ≤ 256 then byteN code p else byteN code (byteN code (byteN code (byteN code p)))
def belowV (code : List UInt8) (n : Int) (p : Nat × Int) : Int :=
  if n ≤ 256 then (byteV code p).tmod n
  else (byteV code p * 16777216 + byteV code (byteN code p) * 65536 + byteV code (byteN code (byteN code p)) * 256 + byteV code (byteN code (byteN code (byteN code p)))).tmod n
theorem belowN_ok {code : List UInt8} {n : Int} {p : Nat × Int} (h : p.1 ≤ code.length) : (belowN code n p).1 ≤ code.length := by
  unfold belowN
  split
  · exact byteN_ok h
  · exact byteN_ok (byteN_ok (byteN_ok (byteN_ok h)))
theorem belowV_rng {code : List UInt8} {n : Int} {p : Nat × Int} (hn : 1 ≤ n) : 0 ≤ belowV code n p ∧ belowV code n p < n := by
  have h1 := byteV_rng code p
  have h2 := byteV_rng code (byteN code p)
  have h3 := byteV_rng code (byteN code (byteN code p))
  have h4 := byteV_rng code (byteN code (byteN code (byteN code p)))
  unfold belowV
  split
  · rw [Int.tmod_eq_emod_of_nonneg (by omega)]
    exact ⟨Int.emod_nonneg _ (by omega), Int.emod_lt_of_pos _ (by omega)⟩
  · rw [Int.tmod_eq_emod_of_nonneg (by omega)]
    exact ⟨Int.emod_nonneg _ (by omega), Int.emod_lt_of_pos _ (by omega)⟩
theorem l01Below_c (code : List UInt8) (n : Int) (p : Nat × Int) (hp : p.1 ≤ code.length) (hn : 1 ≤ n) (hn2 : n ≤ 1000000) : CurF Try.prog n_spec_l01Below (curC code p) (curC code (belowN code n p)) [.c (.i n)] (.c (.i (belowV code n p))) := by
  refine cur_of h_spec_l01Below (by simp) fun hwf hwf2 => ?_
  simp -dsimp -implicitDefEqProofs [c_spec_l01Below]
  have n0 : (n ≤ 0) = False := by simp; omega
  simp -dsimp -implicitDefEqProofs [n0]
  have hv := belowV_rng (code := code) (p := p) hn
  refine fun _ => ⟨fun h => ?_, fun h => ?_⟩
  · skip
    simp only [belowV, belowN, if_pos h] at hv ⊢
    refine call_cur (l01Byte_c code p hp) (by simp ) (by simp) rfl (by simp [freshO]) ?_
    simp -dsimp -implicitDefEqProofs
    refine ⟨by omega, by unfold inI; omega, ?_⟩
    simp [h]; intros; omega
  · skip
    have h' : ¬ n ≤ 256 := by omega
    simp only [belowV, belowN, if_neg h'] at hv ⊢
    have h1 := byteV_rng code p
    have h2 := byteV_rng code (byteN code p)
    have h3 := byteV_rng code (byteN code (byteN code p))
    have h4 := byteV_rng code (byteN code (byteN code (byteN code p)))
    refine call_cur (l01Byte_c code p hp) (by simp ) (by simp) rfl (by simp [freshO]) ?_
    simp -dsimp -implicitDefEqProofs
    refine call_cur (l01Byte_c code (byteN code p) (byteN_ok hp)) (by simp ) (by simp) rfl (by simp [freshO]) ?_
    simp -dsimp -implicitDefEqProofs
    refine call_cur (l01Byte_c code (byteN code (byteN code p)) (byteN_ok (byteN_ok hp))) (by simp ) (by simp) rfl (by simp [freshO]) ?_
    simp -dsimp -implicitDefEqProofs
    refine call_cur (l01Byte_c code (byteN code (byteN code (byteN code p))) (byteN_ok (byteN_ok (byteN_ok hp)))) (by simp ) (by simp) rfl (by simp [freshO]) ?_
    simp -dsimp -implicitDefEqProofs
    refine ⟨by unfold inI; omega, by unfold inI; omega, by unfold inI; omega, by unfold inI; omega, by unfold inI; omega, by unfold inI; omega, by omega, by unfold inI; omega, ?_⟩
    simp [h']
def entryN (code : List UInt8) (p : Nat × Int) : Nat × Int := belowN code 90 (belowN code 90 (belowN code 500 (belowN code 5 (belowN code 12 p))))
def entryV (code : List UInt8) (p : Nat × Int) : Entry :=
  ⟨belowV code 12 p, (belowV code 12 p + 1 + belowV code 5 (belowN code 12 p)).tmod 12, 1 + belowV code 500 (belowN code 5 (belowN code 12 p)),
    belowV code 90 (belowN code 500 (belowN code 5 (belowN code 12 p))), belowV code 90 (belowN code 90 (belowN code 500 (belowN code 5 (belowN code 12 p))))⟩
theorem entryN_ok {code : List UInt8} {p : Nat × Int} (h : p.1 ≤ code.length) : (entryN code p).1 ≤ code.length := belowN_ok (belowN_ok (belowN_ok (belowN_ok (belowN_ok h))))
theorem entryV_ok (code : List UInt8) (p : Nat × Int) : EntryOk (entryV code p) = true ∧ (entryV code p).Amount ≤ 500 := by
  have h1 := belowV_rng (code := code) (n := 12) (p := p) (by omega)
  have h2 := belowV_rng (code := code) (n := 5) (p := belowN code 12 p) (by omega)
  have h3 := belowV_rng (code := code) (n := 500) (p := belowN code 5 (belowN code 12 p)) (by omega)
  have h4 := belowV_rng (code := code) (n := 90) (p := belowN code 500 (belowN code 5 (belowN code 12 p))) (by omega)
  have h5 := belowV_rng (code := code) (n := 90) (p := belowN code 90 (belowN code 500 (belowN code 5 (belowN code 12 p)))) (by omega)
  unfold entryV
  generalize belowV code 12 p = a at *
  generalize belowV code 5 (belowN code 12 p) = b at *
  generalize belowV code 500 (belowN code 5 (belowN code 12 p)) = c at *
  generalize belowV code 90 (belowN code 500 (belowN code 5 (belowN code 12 p))) = d at *
  generalize belowV code 90 (belowN code 90 (belowN code 500 (belowN code 5 (belowN code 12 p)))) = e at *
  rw [Int.tmod_eq_emod_of_nonneg (by omega)]
  simp only [EntryOk, Bool.and_eq_true, decide_eq_true_eq, inRange_iff]
  omega
theorem l08Entry_c (code : List UInt8) (p : Nat × Int) (hp : p.1 ≤ code.length) : CurF Try.prog n_spec_l08Entry (curC code p) (curC code (entryN code p)) [] (.agg ((entryV code p).enc.map .c)) := by
  refine cur_of h_spec_l08Entry (by simp) fun hwf hwf2 => ?_
  have h1 := belowV_rng (code := code) (n := 12) (p := p) (by omega)
  have h2 := belowV_rng (code := code) (n := 5) (p := belowN code 12 p) (by omega)
  have h3 := belowV_rng (code := code) (n := 500) (p := belowN code 5 (belowN code 12 p)) (by omega)
  have ht : 0 ≤ (belowV code 12 p + 1 + belowV code 5 (belowN code 12 p)).tmod 12 ∧ (belowV code 12 p + 1 + belowV code 5 (belowN code 12 p)).tmod 12 < 12 := by
    rw [Int.tmod_eq_emod_of_nonneg (by omega)]; omega
  simp -dsimp -implicitDefEqProofs [c_spec_l08Entry]
  refine call_cur (l01Below_c code 12 p hp (by omega) (by omega)) (by simp ) (by simp) rfl (by simp [freshO]) ?_
  simp -dsimp -implicitDefEqProofs
  refine ⟨by unfold inI; omega, ?_⟩
  refine call_cur (l01Below_c code 5 (belowN code 12 p) (belowN_ok hp) (by omega) (by omega)) (by simp ) (by simp) rfl (by simp [freshO]) ?_
  simp -dsimp -implicitDefEqProofs
  refine ⟨by unfold inI; omega, by unfold inI; omega, ?_⟩
  refine call_cur (l01Below_c code 500 (belowN code 5 (belowN code 12 p)) (belowN_ok (belowN_ok hp)) (by omega) (by omega)) (by simp ) (by simp) rfl (by simp [freshO]) ?_
  simp -dsimp -implicitDefEqProofs
  refine ⟨by unfold inI; omega, ?_⟩
  refine call_cur (l01Below_c code 90 (belowN code 500 (belowN code 5 (belowN code 12 p))) (belowN_ok (belowN_ok (belowN_ok hp))) (by omega) (by omega)) (by simp ) (by simp) rfl (by simp [freshO]) ?_
  simp -dsimp -implicitDefEqProofs
  refine call_cur (l01Below_c code 90 (belowN code 90 (belowN code 500 (belowN code 5 (belowN code 12 p)))) (belowN_ok (belowN_ok (belowN_ok (belowN_ok hp)))) (by omega) (by omega)) (by simp ) (by simp) rfl (by simp [freshO]) ?_
  simp -dsimp -implicitDefEqProofs
  simp [entryN, entryV]
def entP (code : List UInt8) (p : Nat × Int) : Nat → Nat × Int
  | 0 => p
  | k + 1 => entryN code (entP code p k)
theorem entP_ok {code : List UInt8} {p : Nat × Int} (h : p.1 ≤ code.length) : ∀ k : Nat, (entP code p k).1 ≤ code.length
  | 0 => h
  | k + 1 => entryN_ok (entP_ok h k)
def entS (code : List UInt8) (p : Nat × Int) (k : Nat) : List Entry := (List.range k).map fun i => entryV code (entP code p i)
theorem entS_succ {code : List UInt8} {p : Nat × Int} {k : Nat} : entS code p (k + 1) = entS code p k ++ [entryV code (entP code p k)] := by simp [entS, List.range_succ]
theorem entS_len {code : List UInt8} {p : Nat × Int} {k : Nat} : (entS code p k).length = k := by simp [entS]
theorem entS_ok {code : List UInt8} {p : Nat × Int} {k : Nat} : ∀ e ∈ entS code p k, EntryOk e = true ∧ e.Amount ≤ 500 := by
  intro e he
  obtain ⟨i, _, rfl⟩ := List.mem_map.1 he
  exact entryV_ok _ _
def bookK (code : List UInt8) (p : Nat × Int) : Nat := (belowV code 9 p).toNat
def bookN (code : List UInt8) (p : Nat × Int) : Nat × Int := entP code (belowN code 9 p) (bookK code p)
def bookV (code : List UInt8) (p : Nat × Int) : List Entry := entS code (belowN code 9 p) (bookK code p)
theorem bookK_le (code : List UInt8) (p : Nat × Int) : (bookK code p : Int) = belowV code 9 p ∧ bookK code p ≤ 8 := by
  have h := belowV_rng (code := code) (n := 9) (p := p) (by omega)
  unfold bookK; omega
theorem l08Book_c (code : List UInt8) (p : Nat × Int) (hp : p.1 ≤ code.length) : CurF Try.prog n_spec_l08Book (curC code p) (curC code (bookN code p)) [] (.c (.ow 5 ((bookV code p).map Entry.enc))) := by
  refine cur_of h_spec_l08Book (by simp) fun hwf hwf2 => ?_
  have hk := bookK_le code p
  have hq := belowN_ok (n := 9) hp
  simp -dsimp -implicitDefEqProofs [c_spec_l08Book]
  refine call_cur (l01Below_c code 9 p hp (by omega) (by omega)) (by simp ) (by simp) rfl (by simp [freshO]) ?_
  have ebn : bookN code p = entP code (belowN code 9 p) (bookK code p) := rfl
  have ebv : bookV code p = entS code (belowN code 9 p) (bookK code p) := rfl
  simp -dsimp -implicitDefEqProofs [ebn, ebv]
  generalize belowN code 9 p = q at *
  rw [← hk.1]
  have hk8 := hk.2
  generalize bookK code p = n at *
  refine loop_rule (ι := Nat) (fun j => j ≤ n) (fun j => stOf [(0, .box 0 0), (1000000, .box 0 0), (3, .own 5 5 (entS code q j).length), (4, .c (.i (n - j)))] [(0, .box ((curC code (entP code q j)).map .c)), (5, .row 5 ((entS code q j).map Entry.enc))]) (fun j => n - j) 0 (by simp) (by apply le_of <;> simp [AV.refs1, AV.ref0, Obj.refs1, entP, entS]) ?_
  rintro j hj
  rcases Nat.lt_or_ge j n with hlt | hge
  · have hgt : (0 < (n : Int) - (j : Int)) = True := by simp; omega
    simp -dsimp -implicitDefEqProofs [hgt]
    refine ⟨fun _ => ?_, fun h => by omega⟩
    refine call_cur (l08Entry_c code (entP code q j) (entP_ok hq j)) (by simp ) (by simp) rfl (by simp [freshO]) ?_
    simp -dsimp -implicitDefEqProofs
    refine ⟨by rw [entS_len]; omega, by unfold inI; omega, j + 1, hlt, by omega, ?_⟩
    apply le_of <;> simp [AV.refs1, AV.ref0, Obj.refs1, entP, entS_succ] <;> omega
  · have hgt : (0 < (n : Int) - (j : Int)) = False := by simp; omega
    have : j = n := by omega
    subst this
    simp -dsimp -implicitDefEqProofs [hgt]
    rw [ebn, ebv, take_full]; exact ⟨rfl, rfl⟩
def hStep (h : Int) (b : UInt8) : Int := iand (h * 131 + b.toNat + 7) 1073741823
def hashTo (code : List UInt8) (k : Nat) : Int := (code.take k).foldl hStep (33173 + code.length)
def hash (code : List UInt8) : Int := hashTo code (min code.length 4000)
theorem hashTo_zero {code : List UInt8} : hashTo code 0 = 33173 + code.length := rfl
theorem hashTo_succ {code : List UInt8} {k : Nat} {b : UInt8} (h : code[k]? = some b) : hashTo code (k + 1) = hStep (hashTo code k) b := by
  unfold hashTo; rw [List.take_succ, h, List.foldl_append]; rfl
theorem hStep_rng (h : Int) (b : UInt8) : 0 ≤ hStep h b ∧ hStep h b ≤ 1073741823 := iand_le (by omega) (by omega)
theorem hashTo_rng {code : List UInt8} (hl : code.length ≤ 1048576) : ∀ k : Nat, 0 ≤ hashTo code k ∧ hashTo code k ≤ 1073741823
  | 0 => by rw [hashTo_zero]; omega
  | k + 1 => by
    cases h : code[k]? with
    | none =>
      have hk : code.length ≤ k := by simpa using h
      have : hashTo code (k + 1) = hashTo code k := by unfold hashTo; rw [List.take_of_length_le (by omega), List.take_of_length_le hk]
      rw [this]; exact hashTo_rng hl k
    | some b => rw [hashTo_succ h]; exact hStep_rng _ _
theorem l01New_o (code : List UInt8) (hl : code.length ≤ 1048576) : OwnF Try.prog n_spec_l01New [.c (.sl 1 (code.map uenc))] (.c (.bx (curC code (0, hash code)))) := by
  refine own_of h_spec_l01New (by simp) fun hwf => ?_
  simp -dsimp -implicitDefEqProofs [c_spec_l01New]
  refine fun hlen => ⟨by unfold inI; omega, ?_⟩
  refine loop_rule (ι := Nat) (fun k => k ≤ min code.length 4000) (fun k => stOf [(0, .c (.sl 1 (code.map uenc))), (3, .c (.i (hashTo code k))), (4, .c (.i k))] []) (fun k => min code.length 4000 - k) 0 (by simp) (by apply le_of <;> simp [AV.refs1, AV.ref0, Obj.refs1, hashTo_zero]) ?_
  rintro k hk
  have hr := hashTo_rng hl k
  rcases Nat.lt_or_ge k code.length with hlt | hge
  · obtain ⟨b, hb⟩ : ∃ b, code[k]? = some b := ⟨_, List.getElem?_eq_getElem hlt⟩
    have g1 := (List.getElem?_eq_some_iff.1 hb).2
    have h8 := u8_lt b
    have hs := hashTo_succ hb
    simp only [hStep] at hs
    simp -dsimp -implicitDefEqProofs [hb, g1, hlt, uenc]
    refine fun _ => ⟨fun h4 => ⟨by unfold inI; omega, by unfold inI; omega, by unfold inI; omega, by unfold inI; omega, k + 1, by omega, by omega, ?_⟩, fun h4 => ?_⟩
    · apply le_of <;> simp [AV.refs1, AV.ref0, Obj.refs1, hs]
    · have e : min code.length 4000 = k := by omega
      simp [curC, hash, e, C.plain]
  · have hnl : (k < code.length) = False := by simp; omega
    simp -dsimp -implicitDefEqProofs [hnl]
    intro _
    have e : min code.length 4000 = k := by omega
    simp [curC, hash, e, C.plain]
def drawnBook (code : List UInt8) : List Entry := bookV code (0, hash code)
theorem drawnBook_ok (code : List UInt8) : (drawnBook code).length ≤ 8 ∧ ∀ e ∈ drawnBook code, EntryOk e = true ∧ e.Amount ≤ 500 := by
  refine ⟨?_, entS_ok⟩
  unfold drawnBook bookV
  rw [entS_len]
  exact (bookK_le _ _).2
theorem DrawBook_o (code : List UInt8) (hl : code.length ≤ 1048576) : OwnF Try.prog n_spec_DrawBook [.c (.sl 1 (code.map uenc))] (.c (.ow 5 ((drawnBook code).map Entry.enc))) := by
  refine own_of h_spec_DrawBook (by simp) fun hwf => ?_
  have hpl : (∀ x, x ∈ curC code (0, hash code) → x.plain = true) = True := by simp [curC, C.plain]
  simp -dsimp -implicitDefEqProofs [c_spec_DrawBook]
  refine call_ownD (l01New_o code hl) (by simp) rfl (by simp [freshO, hpl]) ?_
  simp -dsimp -implicitDefEqProofs [hpl]
  refine call_cur (l08Book_c code (0, hash code) (by simp)) (by simp [hpl]) (by simp) rfl (by simp [freshO, hpl]) ?_
  simp -dsimp -implicitDefEqProofs
  simp [drawnBook, take_full]

end Go.Proofs.Ytfmgadchjiplmaa
