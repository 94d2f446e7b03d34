/- What the law FnTolls stands on, part 2: contracts of functions, what each answers as plain Lean. -/
import Derived.Test.YtpglolegeidfoaaSTolls1
set_option linter.all false
namespace Go.Proofs.Ytpglolegeidfoaa
open Go.RowKit
open Go.ChangeShapes Go.WideShapes

theorem l01PickInt_g (code : List UInt8) (l : List Int) (p : Nat × Int) (hp : p.1 ≤ code.length) (hl : 1 ≤ l.length) (hl2 : l.length ≤ 1000) : CurG Try.prog n_spec_l01PickInt (curC code p) (curC code (pickN code l p)) 1 (l.map ienc) (.c (.i (pickV code l p))) := by
  have h := belowV_rng (code := code) (n := l.length) (p := p) (by omega)
  have hlt : (belowV code l.length p).toNat < l.length := by omega
  obtain ⟨v, hv⟩ : ∃ v, l[(belowV code l.length p).toNat]? = some v := ⟨_, List.getElem?_eq_getElem hlt⟩
  have gv := (List.getElem?_eq_some_iff.1 hv).2
  have hpv : pickV code l p = v := by simp [pickV, hv]
  refine curG_of h_spec_l01PickInt (by omega) rfl ?_
  simp -dsimp -implicitDefEqProofs [c_spec_l01PickInt]
  intro hlen
  refine call_cur (l01Below_c code l.length p hp (by omega) (by omega)) (by simp ) (by simp) rfl (by simp [freshO]) ?_
  simp -dsimp -implicitDefEqProofs [hv, gv, hlt, h.1, h.2]
  exact ⟨rfl, hpv⟩
theorem pickN_ok {code : List UInt8} {l : List Int} {p : Nat × Int} (h : p.1 ≤ code.length) : (pickN code l p).1 ≤ code.length := belowN_ok h
def lens4 : List Int := [5, 12, 30, 80]
def boatP1 (code : List UInt8) (p : Nat × Int) : Nat × Int := pickN code lens4 p
def boatP2 (code : List UInt8) (p : Nat × Int) : Nat × Int := belowN code 9 (boatP1 code p)
def boatP3 (code : List UInt8) (p : Nat × Int) : Nat × Int := belowN code 30 (boatP2 code p)
def boatP4 (code : List UInt8) (p : Nat × Int) : Nat × Int := belowN code 12 (boatP3 code p)
def boatN (code : List UInt8) (p : Nat × Int) : Nat × Int := belowN code 3 (boatP4 code p)
def boatV (code : List UInt8) (id : Int) (p : Nat × Int) : Boat :=
  ⟨id, pickV code lens4 p, 1 + belowV code 9 (boatP1 code p), 1 + belowV code 30 (boatP2 code p), 1 + belowV code 12 (boatP3 code p), belowV code 3 (boatP4 code p)⟩
theorem boatN_ok {code : List UInt8} {p : Nat × Int} (h : p.1 ≤ code.length) : (boatN code p).1 ≤ code.length := belowN_ok (belowN_ok (belowN_ok (belowN_ok (pickN_ok h))))
theorem l04Boat_c (code : List UInt8) (id : Int) (p : Nat × Int) (hp : p.1 ≤ code.length) : CurF Try.prog n_spec_l04Boat (curC code p) (curC code (boatN code p)) [.c (.i id)] (.agg ((boatV code id p).enc.map .c)) := by
  have p1 : (boatP1 code p).1 ≤ code.length := pickN_ok hp
  have p2 : (boatP2 code p).1 ≤ code.length := belowN_ok p1
  have p3 : (boatP3 code p).1 ≤ code.length := belowN_ok p2
  have p4 : (boatP4 code p).1 ≤ code.length := belowN_ok p3
  have h2 := belowV_rng (code := code) (n := 9) (p := boatP1 code p) (by omega)
  have h3 := belowV_rng (code := code) (n := 30) (p := boatP2 code p) (by omega)
  have h4 := belowV_rng (code := code) (n := 12) (p := boatP3 code p) (by omega)
  have h5 := belowV_rng (code := code) (n := 3) (p := boatP4 code p) (by omega)
  have hpk := l01PickInt_g code lens4 p hp (by simp [lens4]) (by simp [lens4])
  have e4 : lens4.map ienc = [[.i 5], [.i 12], [.i 30], [.i 80]] := rfl
  refine cur_of h_spec_l04Boat (by simp) fun hwf hwf2 => ?_
  simp -dsimp -implicitDefEqProofs [c_spec_l04Boat]
  refine call_curG (rows := [[.i 5], [.i 12], [.i 30], [.i 80]]) (by simpa [e4] using hpk) (by simp) (by simp) rfl ?_
  simp -dsimp -implicitDefEqProofs
  refine call_cur (l01Below_c code 9 (boatP1 code p) p1 (by omega) (by omega)) (by simp [boatP1]) (by simp) rfl (by simp [freshO]) ?_
  simp -dsimp -implicitDefEqProofs
  refine ⟨by unfold inI; omega, ?_⟩
  refine call_cur (l01Below_c code 30 (boatP2 code p) p2 (by omega) (by omega)) (by simp [boatP2]) (by simp) rfl (by simp [freshO]) ?_
  simp -dsimp -implicitDefEqProofs
  refine ⟨by unfold inI; omega, ?_⟩
  refine call_cur (l01Below_c code 12 (boatP3 code p) p3 (by omega) (by omega)) (by simp [boatP3]) (by simp) rfl (by simp [freshO]) ?_
  simp -dsimp -implicitDefEqProofs
  refine ⟨by unfold inI; omega, ?_⟩
  refine call_cur (l01Below_c code 3 (boatP4 code p) p4 (by omega) (by omega)) (by simp [boatP4]) (by simp) rfl (by simp [freshO]) ?_
  simp -dsimp -implicitDefEqProofs
  simp [boatN, boatV]
def eoB (r : List Boat) : List C := [.ow 6 (r.map Boat.enc)]
def addLast (rows : List (List Boat)) (b : Boat) : List (List Boat) := rows.set (rows.length - 1) (rows[rows.length - 1]?.getD [] ++ [b])
def trainTo (code : List UInt8) (id : Int) (p : Nat × Int) : Nat → (Nat × Int) × List (List Boat)
  | 0 => (p, [])
  | k + 1 =>
    let q := trainTo code id p k
    if k = 0 then (boatN code q.1, q.2 ++ [[boatV code (id + k) q.1]])
    else (belowN code 2 (boatN code q.1), if onceV code 2 (boatN code q.1) then addLast q.2 (boatV code (id + k) q.1) else q.2 ++ [[boatV code (id + k) q.1]])
theorem trainTo_ok {code : List UInt8} {id : Int} {p : Nat × Int} (h : p.1 ≤ code.length) : ∀ k : Nat, (trainTo code id p k).1.1 ≤ code.length
  | 0 => h
  | k + 1 => by
    have ih := trainTo_ok (id := id) h k
    simp only [trainTo]
    split
    · exact boatN_ok ih
    · exact belowN_ok (boatN_ok ih)
theorem trainTo_len {code : List UInt8} {id : Int} {p : Nat × Int} : ∀ k : Nat, (trainTo code id p k).2.length ≤ k ∧ (1 ≤ k → 1 ≤ (trainTo code id p k).2.length)
  | 0 => by simp [trainTo]
  | k + 1 => by
    have ih := trainTo_len (code := code) (id := id) (p := p) k
    simp only [trainTo]
    split
    · simp; omega
    · simp only []
      split
      · simp [addLast]; omega
      · simp; omega
theorem trainTo_row {code : List UInt8} {id : Int} {p : Nat × Int} : ∀ k : Nat, ∀ r ∈ (trainTo code id p k).2, r.length ≤ k ∧ 1 ≤ r.length
  | 0, r, h => by simp [trainTo] at h
  | k + 1, r, h => by
    have ih := trainTo_row (code := code) (id := id) (p := p) k
    simp only [trainTo] at h
    split at h
    · rcases List.mem_append.1 h with h | h
      · have := ih r h; omega
      · simp at h; subst h; simp
    · simp only [] at h
      split at h
      · unfold addLast at h
        rcases List.mem_or_eq_of_mem_set h with h | rfl
        · have := ih r h; omega
        · cases hr : (trainTo code id p k).2[(trainTo code id p k).2.length - 1]? with
          | none => simp
          | some r0 => have := ih r0 (List.mem_of_getElem? hr); simp; omega
      · rcases List.mem_append.1 h with h | h
        · have := ih r h; omega
        · simp at h; subst h; simp
theorem setAt_last {rows : List (List Boat)} {z : Nat} {r0 : List Boat} {b : Boat} (h : rows[z]? = some r0) : setAt (setAt (rows.map eoB) z 0 .jk) z 0 (.ow 6 (r0.map Boat.enc ++ [b.enc])) = (rows.set z (r0 ++ [b])).map eoB := by
  have hlt := (List.getElem?_eq_some_iff.1 h).1
  have e1 : (rows.map eoB).getD z [] = eoB r0 := by simp [List.getD, h]
  have e2 : ((rows.map eoB).set z [C.jk]).getD z [] = [C.jk] := by simp [List.getD, hlt]
  have e3 : setAt (rows.map eoB) z 0 .jk = (rows.map eoB).set z [C.jk] := by unfold setAt; rw [e1]; rfl
  rw [e3]
  unfold setAt
  rw [e2, List.set_set, List.map_set]
  simp [eoB]
def trainK (code : List UInt8) (p : Nat × Int) : Nat := (1 + belowV code 4 (belowN code 2 p)).toNat
def trainN (code : List UInt8) (id : Int) (p : Nat × Int) : Nat × Int := (trainTo code id (belowN code 4 (belowN code 2 p)) (trainK code p)).1
def trainV (code : List UInt8) (id : Int) (p : Nat × Int) : Train := ⟨onceV code 2 p, (trainTo code id (belowN code 4 (belowN code 2 p)) (trainK code p)).2⟩
theorem trainK_eq (code : List UInt8) (p : Nat × Int) : (trainK code p : Int) = 1 + belowV code 4 (belowN code 2 p) ∧ 1 ≤ trainK code p ∧ trainK code p ≤ 4 := by
  have h := belowV_rng (code := code) (n := 4) (p := belowN code 2 p) (by omega)
  unfold trainK; omega
set_option maxRecDepth 4000 in
theorem l04Train_c (code : List UInt8) (id : Int) (p : Nat × Int) (hp : p.1 ≤ code.length) (hid : 0 ≤ id ∧ id ≤ 1000000) : CurF Try.prog n_spec_l04Train (curC code p) (curC code (trainN code id p)) [.c (.i id)] (.agg [.c (.b (trainV code id p).Up), .c (.ot 1 ((trainV code id p).Rows.map eoB))]) := by
  refine cur_of h_spec_l04Train (by simp) fun hwf hwf2 => ?_
  have hK := trainK_eq code p
  simp -dsimp -implicitDefEqProofs [c_spec_l04Train]
  refine call_cur (l01Once_c code 2 p hp (by omega) (by omega)) (by simp ) (by simp) rfl (by simp [freshO]) ?_
  simp -dsimp -implicitDefEqProofs
  refine call_cur (l01Below_c code 4 (belowN code 2 p) (belowN_ok hp) (by omega) (by omega)) (by simp ) (by simp) rfl (by simp [freshO]) ?_
  simp -dsimp -implicitDefEqProofs
  refine ⟨by unfold inI; omega, ?_⟩
  have hp0 : (belowN code 4 (belowN code 2 p)).1 ≤ code.length := belowN_ok (belowN_ok hp)
  rw [← hK.1]
  have eN : trainN code id p = (trainTo code id (belowN code 4 (belowN code 2 p)) (trainK code p)).1 := rfl
  have eV : (trainV code id p).Rows = (trainTo code id (belowN code 4 (belowN code 2 p)) (trainK code p)).2 := rfl
  have eU : (trainV code id p).Up = onceV code 2 p := rfl
  rw [eN, eV, eU]
  generalize trainK code p = n at *
  generalize belowN code 4 (belowN code 2 p) = p0 at *
  generalize onceV code 2 p = up at *
  refine loop_rule (ι := Nat × Nat) (fun q => q.1 ≤ n) (fun q => if q.1 = 0 then stOf [(0, .box 0 0), (1000000, .box 0 0), (1, .c (.i id)), (4, .box 4 0), (5, .box 5 0), (6, .c (.i n)), (7, .c (.i 0))] [(0, .box ((curC code p0).map .c)), (4, .box [.c (.b false), .nil 1]), (5, .box [.c (.b up), .nil 1])]
    else stOf [(0, .box 0 0), (1000000, .box 0 0), (1, .c (.i id)), (4, .box 4 0), (5, .box 5 0), (6, .c (.i n)), (7, .c (.i q.1))] [(0, .box ((curC code (trainTo code id p0 q.1).1).map .c)), (4, .box [.c (.b false), .nil 1]), (5, .box [.c (.b up), .own 54 1 (trainTo code id p0 q.1).2.length]), (54, .tr 1 q.2 ((trainTo code id p0 q.1).2.map eoB))]) (fun q => n - q.1) (0, 0) (by simp) (by rw [if_pos rfl]; apply le_of <;> simp [AV.refs1, AV.ref0, Obj.refs1]) ?_
  rintro ⟨k, ver⟩ hk
  simp only at hk
  rcases Nat.eq_zero_or_pos k with e | hk0
  · subst e
    have hn0 : ((0 : Int) < (n : Int)) = True := by simp; omega
    have hn0' : (0 < n) = True := by simp; omega
    rw [if_pos rfl]
    have hs1 : trainTo code id p0 1 = (boatN code p0, [[boatV code id p0]]) := by simp [trainTo]
    simp -dsimp -implicitDefEqProofs [hn0, hn0']
    refine ⟨by unfold inI; omega, ?_⟩
    refine call_cur (l04Boat_c code id p0 hp0) (by simp ) (by simp) rfl (by simp [freshO]) ?_
    simp -dsimp -implicitDefEqProofs
    refine ⟨by unfold inI; omega, 1, by omega, by omega, 0, ?_⟩
    rw [if_neg (by simp)]
    apply le_of <;> simp [AV.refs1, AV.ref0, Obj.refs1, hs1, eoB]
  · have hne : (k = 0) = False := by simp; omega
    simp only [hne, if_false]
    have hq := trainTo_ok (id := id) hp0 k
    have hln := trainTo_len (code := code) (id := id) (p := p0) k
    have hrow := trainTo_row (code := code) (id := id) (p := p0) k
    have hsuc : trainTo code id p0 (k + 1) = (belowN code 2 (boatN code (trainTo code id p0 k).1), if onceV code 2 (boatN code (trainTo code id p0 k).1) then addLast (trainTo code id p0 k).2 (boatV code (id + k) (trainTo code id p0 k).1) else (trainTo code id p0 k).2 ++ [[boatV code (id + k) (trainTo code id p0 k).1]]) := by
      simp only [trainTo, hne, if_false]
    generalize hQ : trainTo code id p0 k = Q at *
    obtain ⟨q, rows⟩ := Q
    simp only at hq hln hsuc hrow ⊢
    rcases Nat.lt_or_ge k n with hlt | hge
    · simp -dsimp -implicitDefEqProofs [lt_t hlt, hlt]
      refine ⟨by unfold inI; omega, ?_⟩
      refine call_cur (l04Boat_c code (id + k) q hq) (by simp ) (by simp) rfl (by simp [freshO]) ?_
      simp -dsimp -implicitDefEqProofs
      refine ⟨fun _ => ?_, fun h => by omega⟩
      refine call_cur (l01Once_c code 2 (boatN code q) (boatN_ok hq) (by omega) (by omega)) (by simp ) (by simp) rfl (by simp [freshO]) ?_
      generalize boatV code (id + k) q = b at *
      have hr1 := hln.2 (by omega)
      cases ho : onceV code 2 (boatN code q) with
      | false =>
        rw [ho] at hsuc
        simp -dsimp -implicitDefEqProofs
        have hl := hln.1
        refine ⟨by omega, by unfold inI; omega, k + 1, hlt, by omega, 0, ?_⟩
        rw [if_neg (by omega)]
        apply le_of <;> simp [AV.refs1, AV.ref0, Obj.refs1, hsuc, eoB]
      | true =>
        rw [ho] at hsuc
        obtain ⟨r0, hr0⟩ : ∃ r, rows[rows.length - 1]? = some r := ⟨_, List.getElem?_eq_getElem (by omega)⟩
        have g0 := (List.getElem?_eq_some_iff.1 hr0).2
        have hadd : addLast rows b = rows.set (rows.length - 1) (r0 ++ [b]) := by simp [addLast, hr0]
        have hl := hln.1
        have ez : ((rows.length : Int) - 1) = ((rows.length - 1 : Nat) : Int) := by omega
        have m1 : rows.length - 1 < rows.length := by omega
        obtain ⟨z, hz⟩ : ∃ z, z = rows.length - 1 := ⟨_, rfl⟩
        rw [← hz] at hr0 hadd ez m1
        have hrl := hrow r0 (List.mem_of_getElem? hr0)
        have g0 := (List.getElem?_eq_some_iff.1 hr0).2
        have hset := setAt_last (b := b) hr0
        have hjl : (setAt (rows.map eoB) z 0 C.jk).length = rows.length := by simp [setAt]
        have htk : (r0.map Boat.enc ++ [b.enc]).take (r0.length + 1) = r0.map Boat.enc ++ [b.enc] := List.take_of_length_le (by simp)
        simp only [Boat.enc] at htk hset
        simp -dsimp -implicitDefEqProofs [ez, hr0, m1, eoB, g0, hjl, htk]
        refine fun _ => ⟨by unfold inI; omega, fun _ => ⟨by unfold inI; omega, by omega, by unfold inI; omega, k + 1, hlt, by omega, ver + 2, ?_⟩⟩
        rw [if_neg (by omega)]
        apply le_of <;> simp [AV.refs1, AV.ref0, Obj.refs1, hsuc, hadd, g0, htk, hset]
    · have : k = n := by omega
      subst this
      simp -dsimp -implicitDefEqProofs
      rw [hQ, List.take_of_length_le (by simp)]
      exact ⟨rfl, rfl⟩
theorem addLast_flat {rows : List (List Boat)} {b : Boat} (h : 1 ≤ rows.length) : (addLast rows b).flatten = rows.flatten ++ [b] := by
  rcases List.eq_nil_or_concat rows with e | ⟨l, r, e⟩
  · subst e; simp at h
  · rw [List.concat_eq_append] at e
    subst e
    simp [addLast]
theorem trainTo_flat {code : List UInt8} {id : Int} {p : Nat × Int} (k : Nat) : (trainTo code id p (k + 1)).2.flatten = (trainTo code id p k).2.flatten ++ [boatV code (id + k) (trainTo code id p k).1] := by
  have ih := trainTo_len (code := code) (id := id) (p := p) k
  simp only [trainTo]
  split
  · simp
  · simp only []
    split
    · rw [addLast_flat (by omega)]
    · simp
theorem trainTo_ids {code : List UInt8} {id : Int} {p : Nat × Int} : ∀ k : Nat, (trainTo code id p k).2.flatten.map idOf = (List.range k).map fun i : Nat => id + (i : Int)
  | 0 => rfl
  | k + 1 => by
    rw [trainTo_flat, List.map_append, trainTo_ids k, List.range_succ, List.map_append]
    rfl
theorem lens4_rng {x : Int} (h : x ∈ lens4) : 1 ≤ x ∧ x ≤ 200 := by
  simp [lens4] at h; omega
theorem boatV_ok {code : List UInt8} {id : Int} {p : Nat × Int} (h : 1 ≤ id ∧ id ≤ 9999) : BoatOk (boatV code id p) = true := by
  have h1 := lens4_rng (pickV_mem (code := code) (l := lens4) (p := p) (by simp [lens4]))
  have h2 := belowV_rng (code := code) (n := 9) (p := boatP1 code p) (by omega)
  have h3 := belowV_rng (code := code) (n := 30) (p := boatP2 code p) (by omega)
  have h4 := belowV_rng (code := code) (n := 12) (p := boatP3 code p) (by omega)
  have h5 := belowV_rng (code := code) (n := 3) (p := boatP4 code p) (by omega)
  simp only [BoatOk, boatV, Bool.and_eq_true]
  exact ⟨⟨⟨⟨⟨inRange_iff.2 h, inRange_iff.2 h1⟩, inRange_iff.2 ⟨by omega, by omega⟩⟩, inRange_iff.2 ⟨by omega, by omega⟩⟩, inRange_iff.2 ⟨by omega, by omega⟩⟩, inRange_iff.2 ⟨by omega, by omega⟩⟩
theorem trainTo_all {code : List UInt8} {id : Int} {p : Nat × Int} : ∀ k : Nat, 1 ≤ id → id + k ≤ 9999 → ∀ b ∈ (trainTo code id p k).2.flatten, BoatOk b = true
  | 0, _, _, b, h => by simp [trainTo] at h
  | k + 1, h1, h2, b, h => by
    rw [trainTo_flat] at h
    rcases List.mem_append.1 h with h | h
    · exact trainTo_all k h1 (by omega) b h
    · simp only [List.mem_singleton] at h
      subst h
      exact boatV_ok ⟨by omega, by omega⟩
theorem trainV_ok {code : List UInt8} {id : Int} {p : Nat × Int} (h : 1 ≤ id ∧ id ≤ 9000) : TrainOk (trainV code id p) = true := by
  obtain ⟨_, k1, k4⟩ := trainK_eq code p
  have hb : (trainV code id p).boats = (trainTo code id (belowN code 4 (belowN code 2 p)) (trainK code p)).2.flatten := rfl
  have hr : (trainV code id p).Rows = (trainTo code id (belowN code 4 (belowN code 2 p)) (trainK code p)).2 := rfl
  simp only [TrainOk, Bool.and_eq_true, List.all_eq_true, decide_eq_true_eq]
  have hids := trainTo_ids (code := code) (id := id) (p := belowN code 4 (belowN code 2 p)) (trainK code p)
  have hlen := congrArg List.length hids
  simp only [List.length_map, List.length_range] at hlen
  rw [hb, hr]
  refine ⟨⟨⟨fun r hr => full_iff.2 ?_, trainTo_all _ (by omega) (by omega)⟩, ?_⟩, inRange_iff.2 ?_⟩
  · have := trainTo_row _ r hr; omega
  · rw [hids]
    refine List.Pairwise.map _ ?_ List.nodup_range
    intro a b h e
    exact h (by omega)
  · rw [hlen]; omega
theorem trainV_small {code : List UInt8} {id : Int} {p : Nat × Int} : (trainV code id p).small := by
  obtain ⟨_, k1, k4⟩ := trainK_eq code p
  have h1 := trainTo_len (code := code) (id := id) (p := belowN code 4 (belowN code 2 p)) (trainK code p)
  refine ⟨by simp only [trainV]; omega, fun r hr => ⟨?_, fun _ _ => trivial⟩⟩
  have := trainTo_row _ r hr
  omega
theorem shrs_map {α : Type} {f g : α → List C} (h : ∀ x, shrl (f x) = some (g x)) : ∀ (l : List α), shrs (l.map f) = some (l.map g)
  | [] => rfl
  | x :: l => by simp [shrs, h x, shrs_map h l]
theorem cshr_ot {α : Type} {f g : α → List C} {k : Nat} (h : ∀ x, shrl (f x) = some (g x)) (l : List α) : (C.ot k (l.map f)).shr = some (.sl k (l.map g)) := by simp [C.shr, shrs_map h l]
section
variable {α : Type} {f : Int → α → List C} {g : α → List C} {n : α → Nat} {k : Int} {xs : List α} {i : Nat} {x : α}
end
def least (f : Int → Bool) (lo : Int) : Nat → Int
  | 0 => lo
  | n + 1 => if f lo then lo else least f (lo + 1) n
section
variable {ms : List Mover} {w : Way} {r : Reach} {k : Nat} {m : Mover}
end
structure TariffFacts (t : Tariff) : Prop where
  base : 0 ≤ t.Base ∧ t.Base ≤ 10000
  area : 0 ≤ t.PerArea ∧ t.PerArea ≤ 100
  three : t.PerClass.length = 3
  cls : ∀ x ∈ t.PerClass, 0 ≤ x ∧ x ≤ 10000
  wlen : 1 ≤ t.Weights.length ∧ t.Weights.length ≤ 11
  wts : ∀ x ∈ t.Weights, 0 ≤ x ∧ x ≤ 1000
  sum : 0 < t.Weights.sum
theorem tariffFacts {t : Tariff} (h : TariffOk t = true) : TariffFacts t := by
  simp only [TariffOk, Bool.and_eq_true, List.all_eq_true, decide_eq_true_eq] at h
  obtain ⟨⟨⟨⟨⟨⟨h1, h2⟩, h3⟩, h4⟩, h5⟩, h6⟩, h7⟩ := h
  have h4 := inRange_iff.1 h4
  exact ⟨inRange_iff.1 h1, inRange_iff.1 h2, h3, fun x hx => inRange_iff.1 (h5 x hx), by omega, fun x hx => inRange_iff.1 (h6 x hx), h7⟩
def TollOf (t : Tariff) (x : Train) : Int := if TariffOk t && TrainOk x then t.Base + (t.PerArea * LengthOf x * WidthOf x).tdiv 100 + t.PerClass[(ClassOf x).toNat]?.getD 0 else 0
theorem toll_bounds {t : Tariff} {x : Train} (h1 : TariffOk t = true) (h2 : TrainOk x = true) :
    ∃ c, t.PerClass[(ClassOf x).toNat]? = some c ∧ 0 ≤ ClassOf x ∧ ClassOf x < t.PerClass.length ∧ inI (t.PerArea * LengthOf x) ∧ inI (t.PerArea * LengthOf x * WidthOf x) ∧ inI ((t.PerArea * LengthOf x * WidthOf x).tdiv 100) ∧
      inI (t.Base + (t.PerArea * LengthOf x * WidthOf x).tdiv 100) ∧ inI (t.Base + (t.PerArea * LengthOf x * WidthOf x).tdiv 100 + c) ∧ 0 ≤ t.Base + (t.PerArea * LengthOf x * WidthOf x).tdiv 100 + c ∧ t.Base + (t.PerArea * LengthOf x * WidthOf x).tdiv 100 + c ≤ 1000000 := by
  have tf := tariffFacts h1
  have a1 := LengthOf_in x
  have a2 := WidthOf_in x
  have a3 := ClassOf_in h2
  have b1 := tf.base; have b2 := tf.area; have b3 := tf.three
  obtain ⟨c, hc⟩ : ∃ c, t.PerClass[(ClassOf x).toNat]? = some c := ⟨_, List.getElem?_eq_getElem (by omega)⟩
  have b4 := tf.cls c (List.mem_of_getElem? hc)
  have e1 : 0 ≤ t.PerArea * LengthOf x := Int.mul_nonneg b2.1 a1.1
  have e2 : t.PerArea * LengthOf x ≤ 100 * 1200 := Int.mul_le_mul b2.2 a1.2 a1.1 (by omega)
  have e3 : 0 ≤ t.PerArea * LengthOf x * WidthOf x := Int.mul_nonneg e1 a2.1
  have e4 : t.PerArea * LengthOf x * WidthOf x ≤ 120000 * 180 := Int.mul_le_mul (by omega) a2.2 a2.1 (by omega)
  have e5 : (t.PerArea * LengthOf x * WidthOf x).tdiv 100 = (t.PerArea * LengthOf x * WidthOf x) / 100 := Int.tdiv_eq_ediv_of_nonneg e3
  rw [e5]
  refine ⟨c, hc, a3.1, by omega, ?_, ?_, ?_, ?_, ?_, by omega, by omega⟩ <;> unfold inI <;> omega
theorem TollOf_in (t : Tariff) (x : Train) : 0 ≤ TollOf t x ∧ TollOf t x ≤ 1000000 := by
  unfold TollOf
  split
  · rename_i h
    rw [Bool.and_eq_true] at h
    obtain ⟨c, hc, _, _, _, _, _, _, _, c1, c2⟩ := toll_bounds h.1 h.2
    rw [hc]; exact ⟨c1, c2⟩
  · omega
theorem TollOf_impl (t : Tariff) (x : Train) (h : x.small) : PureF Try.prog n_impl_TollOf [.agg (t.enc.map .c), .agg (x.enc.map .c)] (.c (.i (TollOf t x))) := by
  refine pure_of h_impl_TollOf (by simp) fun hwf => ?_
  simp -dsimp -implicitDefEqProofs [c_impl_TollOf]
  first
    | refine call_lend (TariffOk_impl t) (by simp) rfl ?_
    | refine call_pure (TariffOk_impl t) (by simp) rfl ?_
    | refine ⟨_, _, TariffOk_impl t, by simp, .inr rfl, ?_⟩
    | refine ⟨_, _, TariffOk_impl t, by simp, .inl rfl, ?_⟩
    | refine callE_pure (TariffOk_impl t) (by simp) (.inr rfl) ?_
    | refine callE_pure (TariffOk_impl t) (by simp) (.inl rfl) ?_
  cases h1 : TariffOk t with
  | false => simp -dsimp -implicitDefEqProofs; simp [TollOf, h1]
  | true =>
    simp -dsimp -implicitDefEqProofs
    first
      | refine call_lend (TrainOk_impl x h) (by simp) rfl ?_
      | refine call_pure (TrainOk_impl x h) (by simp) rfl ?_
      | refine ⟨_, _, TrainOk_impl x h, by simp, .inr rfl, ?_⟩
      | refine ⟨_, _, TrainOk_impl x h, by simp, .inl rfl, ?_⟩
      | refine callE_pure (TrainOk_impl x h) (by simp) (.inr rfl) ?_
      | refine callE_pure (TrainOk_impl x h) (by simp) (.inl rfl) ?_
    cases h2 : TrainOk x with
    | false => simp -dsimp -implicitDefEqProofs; simp [TollOf, h2]
    | true =>
      obtain ⟨c, hc, c1, c2, c3, c4, c5, c6, c7, _, _⟩ := toll_bounds h1 h2
      simp -dsimp -implicitDefEqProofs
      first
        | refine call_lend (LengthOf_impl x h) (by simp) rfl ?_
        | refine call_pure (LengthOf_impl x h) (by simp) rfl ?_
        | refine ⟨_, _, LengthOf_impl x h, by simp, .inr rfl, ?_⟩
        | refine ⟨_, _, LengthOf_impl x h, by simp, .inl rfl, ?_⟩
        | refine callE_pure (LengthOf_impl x h) (by simp) (.inr rfl) ?_
        | refine callE_pure (LengthOf_impl x h) (by simp) (.inl rfl) ?_
      simp -dsimp -implicitDefEqProofs
      refine ⟨c3, ?_⟩
      first
        | refine call_lend (WidthOf_impl x h) (by simp) rfl ?_
        | refine call_pure (WidthOf_impl x h) (by simp) rfl ?_
        | refine ⟨_, _, WidthOf_impl x h, by simp, .inr rfl, ?_⟩
        | refine ⟨_, _, WidthOf_impl x h, by simp, .inl rfl, ?_⟩
        | refine callE_pure (WidthOf_impl x h) (by simp) (.inr rfl) ?_
        | refine callE_pure (WidthOf_impl x h) (by simp) (.inl rfl) ?_
      simp -dsimp -implicitDefEqProofs
      refine ⟨c4, c5, c6, ?_⟩
      first
        | refine call_lend (ClassOf_impl x h) (by simp) rfl ?_
        | refine call_pure (ClassOf_impl x h) (by simp) rfl ?_
        | refine ⟨_, _, ClassOf_impl x h, by simp, .inr rfl, ?_⟩
        | refine ⟨_, _, ClassOf_impl x h, by simp, .inl rfl, ?_⟩
        | refine callE_pure (ClassOf_impl x h) (by simp) (.inr rfl) ?_
        | refine callE_pure (ClassOf_impl x h) (by simp) (.inl rfl) ?_
      have hg := (List.getElem?_eq_some_iff.1 hc).2
      simp -dsimp -implicitDefEqProofs [hc, c1, c2, hg]
      exact ⟨c7, by simp [TollOf, h1, h2, hc]⟩
def atV (code : List UInt8) (i : Nat) : Int := if code.length = 0 then 0 else (code[(i * 5 + 1) % code.length]?.map fun b => (b.toNat : Int)).getD 0
theorem atV_rng (code : List UInt8) (i : Nat) : 0 ≤ atV code i ∧ atV code i ≤ 255 := by
  unfold atV
  split
  · omega
  · cases h : code[(i * 5 + 1) % code.length]? with
    | none => simp
    | some b => have := u8_lt b; simp; omega
theorem at_c (code : List UInt8) (i : Nat) (hi : i ≤ 1000) : PureF Try.prog n_laws_at [.c (.sl 1 (code.map uenc)), .c (.i i)] (.c (.i (atV code i))) := by
  refine pure_of h_laws_at (by simp) fun hwf => ?_
  cases code with
  | nil => simp -dsimp -implicitDefEqProofs [c_laws_at]; simp [atV]
  | cons b0 l =>
    obtain ⟨cs, hcs⟩ : ∃ cs, cs = b0 :: l := ⟨_, rfl⟩
    have hl : 0 < cs.length := by rw [hcs]; simp
    rw [← hcs]
    obtain ⟨j, hj⟩ : ∃ j, j = (i * 5 + 1) % cs.length := ⟨_, rfl⟩
    have hjl : j < cs.length := by rw [hj]; exact Nat.mod_lt _ hl
    obtain ⟨b, hb⟩ : ∃ b, cs[j]? = some b := ⟨_, List.getElem?_eq_getElem hjl⟩
    have gb := (List.getElem?_eq_some_iff.1 hb).2
    have h8 := u8_lt b
    have hv : atV cs i = b.toNat := by unfold atV; rw [if_neg (by omega), ← hj, hb]; rfl
    have hji : ((i : Int) * 5 + 1).tmod cs.length = (j : Int) := by
      rw [hj, Int.tmod_eq_emod_of_nonneg (by omega), Int.natCast_emod]; simp
    have hne : (cs = []) = False := by simp only [eq_iff_iff, iff_false]; intro h; rw [h] at hl; simp at hl
    have hne0 : (cs.length = 0) = False := by simp only [eq_iff_iff, iff_false]; omega
    rw [hv]
    simp -dsimp -implicitDefEqProofs [c_laws_at, hne, hne0, hji, hb, gb, hjl, uenc]
    refine fun hml => ⟨by unfold inI; omega, by unfold inI; omega, fun _ => ?_⟩
    unfold maxLen at hml
    unfold inI; omega
def drawnTrain (code : List UInt8) : Train := trainV code 1 (0, hash code)
theorem DrawTrain_o (code : List UInt8) (hl : code.length ≤ 1048576) : OwnF Try.prog n_spec_DrawTrain [.c (.sl 1 (code.map uenc))] (.agg [.c (.b (drawnTrain code).Up), .c (.ot 1 ((drawnTrain code).Rows.map eoB))]) := by
  refine own_of h_spec_DrawTrain (by simp) fun hwf => ?_
  have hpl : (∀ x, x ∈ curC code (0, hash code) → x.plain = true) = True := by simp [curC, C.plain]
  simp -dsimp -implicitDefEqProofs [c_spec_DrawTrain]
  refine call_ownD (l01New_o code hl) (by simp) rfl (by simp [freshO, hpl]) ?_
  simp -dsimp -implicitDefEqProofs [hpl]
  refine call_cur (l04Train_c code 1 (0, hash code) (by simp) (by omega)) (by simp [hpl]) (by simp) rfl (by simp [freshO, hpl]) ?_
  simp -dsimp -implicitDefEqProofs [hpl]
  simp [drawnTrain, take_full]
theorem DrawTrain_p (code : List UInt8) (hl : code.length ≤ 1048576) : PureF Try.prog n_spec_DrawTrain [.c (.sl 1 (code.map uenc))] (.agg ((drawnTrain code).enc.map .c)) := (DrawTrain_o code hl).pure (by simp [AV.shr, AV.shr1, shrl, cshr_ot (f := eoB) (g := enc_BoatS) fun r => rfl])
theorem trainTo_draught {code : List UInt8} {id : Int} {p : Nat × Int} : ∀ k : Nat, ∀ b ∈ (trainTo code id p k).2.flatten, 0 ≤ b.Draught ∧ b.Draught ≤ 30
  | 0, b, h => by simp [trainTo] at h
  | k + 1, b, h => by
    rw [trainTo_flat] at h
    rcases List.mem_append.1 h with h | h
    · exact trainTo_draught k b h
    · simp only [List.mem_singleton] at h
      subst h
      have h3 := belowV_rng (code := code) (n := 30) (p := boatP2 code (trainTo code id p k).1) (by omega)
      simp only [boatV]; omega
theorem drawnTrain_ok (code : List UInt8) : TrainOk (drawnTrain code) = true ∧ (drawnTrain code).small ∧ DraughtOf (drawnTrain code) ≤ 30 := by
  refine ⟨trainV_ok (by omega), trainV_small, ?_⟩
  unfold DraughtOf
  split
  · refine (maxOf_in (a := 0) (b := 30) (fun x hx => ?_) (by omega) (by omega)).2
    exact trainTo_draught _ x hx
  · omega
def vAt (l : List Int) (k : Nat) : Int := l[k]?.getD 0
theorem vAt_eq {l : List Int} {k : Nat} {x : Int} (h : l[k]? = some x) : vAt l k = x := by simp [vAt, h]
def amaxTo (l : List Int) : Nat → Nat
  | 0 => 0
  | k + 1 => if vAt l (amaxTo l k) < vAt l k then k else amaxTo l k
def aminTo (l : List Int) : Nat → Nat
  | 0 => 0
  | k + 1 => if vAt l k < vAt l (aminTo l k) then k else aminTo l k
theorem amaxTo_succ {l : List Int} {k : Nat} : amaxTo l (k + 1) = if vAt l (amaxTo l k) < vAt l k then k else amaxTo l k := rfl
theorem amaxTo_lt {l : List Int} (h : 0 < l.length) : ∀ {k : Nat}, k ≤ l.length → amaxTo l k < l.length
  | 0, _ => h
  | k + 1, hk => by
    rw [amaxTo_succ]
    split
    · omega
    · exact amaxTo_lt h (by omega)
theorem amaxTo_ge {l : List Int} : ∀ {k j : Nat}, j < k → vAt l j ≤ vAt l (amaxTo l k)
  | k + 1, j, hj => by
    rw [amaxTo_succ]
    rcases Nat.lt_or_ge j k with h | h
    · have := amaxTo_ge (l := l) h
      split <;> omega
    · have : j = k := by omega
      subst this
      split <;> omega
theorem amaxTo_first {l : List Int} : ∀ {k j : Nat}, j < amaxTo l k → vAt l j < vAt l (amaxTo l k)
  | 0, j, h => by simp [amaxTo] at h
  | k + 1, j, h => by
    rw [amaxTo_succ] at h ⊢
    split at h
    · rename_i h2
      rw [if_pos h2]
      have := amaxTo_ge (l := l) (show j < k from h)
      omega
    · rename_i h2
      rw [if_neg h2]
      exact amaxTo_first h
theorem amaxTo_eq {l : List Int} {n a : Nat} (h : a < n) (h1 : ∀ x, x < n → vAt l x ≤ vAt l a) (h2 : ∀ x, x < a → vAt l x < vAt l a) (hn : n ≤ l.length) : amaxTo l n = a := by
  have g1 := amaxTo_ge (l := l) h
  have g2 : amaxTo l n < l.length := amaxTo_lt (by omega) hn
  have g3 : amaxTo l n < n := by
    have : ∀ k : Nat, 0 < k → amaxTo l k < k := by
      intro k
      induction k with
      | zero => intro h; omega
      | succ k ih =>
        intro _
        rw [amaxTo_succ]
        split
        · omega
        · rcases Nat.eq_zero_or_pos k with e | e
          · subst e; simp [amaxTo]
          · have := ih e; omega
    exact this n (by omega)
  have g4 := h1 _ g3
  rcases Nat.lt_trichotomy a (amaxTo l n) with e | e | e
  · have := amaxTo_first e; omega
  · exact e.symm
  · have := h2 _ e; omega
def better (R : List Int) (x y : Nat) : Prop := vAt R y < vAt R x ∨ (vAt R x = vAt R y ∧ x < y)
def insP (R : List Int) (i : Nat) (x : Nat) : Bool := decide (vAt R i ≤ vAt R x)
def insI (R : List Int) (i : Nat) (P : List Nat) : List Nat := P.takeWhile (insP R i) ++ i :: P.dropWhile (insP R i)
def ordI (R : List Int) : Nat → List Nat
  | 0 => []
  | i + 1 => insI R i (ordI R i)
theorem split_at {p : Nat → Bool} : ∀ {l1 l2 : List Nat}, (∀ x ∈ l1, p x = true) → (∀ x ∈ l2, p x = false) → (l1 ++ l2).takeWhile p = l1 ∧ (l1 ++ l2).dropWhile p = l2
  | [], [], _, _ => ⟨rfl, rfl⟩
  | [], x :: l, _, h => by
    have := h x (by simp)
    simp [List.takeWhile_cons, List.dropWhile_cons, this]
  | x :: l, l2, h1, h2 => by
    have hx := h1 x (by simp)
    obtain ⟨e1, e2⟩ := split_at (p := p) (l1 := l) (l2 := l2) (fun y hy => h1 y (by simp [hy])) h2
    simp [List.takeWhile_cons, List.dropWhile_cons, hx, e1, e2]
theorem dropWhile_head {p : Nat → Bool} : ∀ {l r : List Nat} {y : Nat}, l.dropWhile p = y :: r → p y = false
  | [], r, y, h => by simp at h
  | x :: l, r, y, h => by
    rw [List.dropWhile_cons] at h
    split at h
    · exact dropWhile_head h
    · rename_i hx
      cases h
      simpa using hx
theorem insI_of {R : List Int} {i : Nat} {P l1 l2 : List Nat} (hP : P.Pairwise (better R)) (e : l1 ++ l2 = P) (h2 : ∀ x ∈ l2, vAt R x < vAt R i) (h1 : ∀ l y, l1 = l ++ [y] → vAt R i ≤ vAt R y) : insI R i P = l1 ++ i :: l2 := by
  subst e
  have hall : ∀ x ∈ l1, insP R i x = true := by
    rcases List.eq_nil_or_concat l1 with e | ⟨l, y, e⟩
    · subst e; simp
    · have hy := h1 l y (by simpa using e)
      subst e
      intro x hx
      simp only [insP, decide_eq_true_eq]
      rw [List.concat_eq_append] at hx hP
      rcases List.mem_append.1 hx with hx | hx
      · have := (List.pairwise_append.1 (List.pairwise_append.1 hP).1).2.2 x hx y (by simp)
        unfold better at this; omega
      · rw [List.mem_singleton] at hx; subst hx; exact hy
  obtain ⟨e1, e2⟩ := split_at (p := insP R i) hall (fun x hx => by have := h2 x hx; simp only [insP, decide_eq_false_iff_not]; omega)
  unfold insI
  rw [e1, e2]
structure OrdFacts (R : List Int) (i : Nat) (o : List Nat) : Prop where
  len : o.length = i
  lt : ∀ x ∈ o, x < i
  pw : o.Pairwise (better R)
  all : ∀ x, x < i → x ∈ o
theorem ordFacts (R : List Int) : ∀ i : Nat, OrdFacts R i (ordI R i)
  | 0 => ⟨rfl, by simp [ordI], by simp [ordI], fun x h => by omega⟩
  | i + 1 => by
    have f := ordFacts R i
    show OrdFacts R (i + 1) (insI R i (ordI R i))
    generalize ordI R i = P at f
    have e := List.takeWhile_append_dropWhile (p := insP R i) (l := P)
    have h1 : ∀ x ∈ P.takeWhile (insP R i), vAt R i ≤ vAt R x := fun x hx => by
      have : insP R i x = true := by
        have := List.all_takeWhile (p := insP R i) (l := P)
        exact List.all_eq_true.1 this x hx
      simpa [insP] using this
    have h2 : ∀ x ∈ P.dropWhile (insP R i), vAt R x < vAt R i := by
      intro x hx
      have hpw : (P.dropWhile (insP R i)).Pairwise (better R) := by have := f.pw; rw [← e] at this; exact (List.pairwise_append.1 this).2.1
      have hh : ∀ y l, P.dropWhile (insP R i) = y :: l → vAt R y < vAt R i := by
        intro y l hy
        have := dropWhile_head hy
        simpa [insP] using this
      cases hd : P.dropWhile (insP R i) with
      | nil => rw [hd] at hx; cases hx
      | cons y l =>
        have hy := hh y l hd
        rw [hd] at hx hpw
        rcases List.mem_cons.1 hx with e | e
        · subst e; exact hy
        · have := (List.pairwise_cons.1 hpw).1 x e
          unfold better at this; omega
    have hlen : (P.takeWhile (insP R i)).length + (P.dropWhile (insP R i)).length = i := by rw [← List.length_append, e, f.len]
    have hmem : ∀ x, x ∈ P ↔ x ∈ P.takeWhile (insP R i) ∨ x ∈ P.dropWhile (insP R i) := fun x => by rw [← List.mem_append, e]
    refine ⟨by simp only [insI, List.length_append, List.length_cons]; omega, fun x hx => ?_, ?_, fun x hx => ?_⟩
    · rcases List.mem_append.1 hx with hx | hx
      · have := f.lt x ((hmem x).2 (.inl hx)); omega
      · rcases List.mem_cons.1 hx with hx | hx
        · omega
        · have := f.lt x ((hmem x).2 (.inr hx)); omega
    · have hpw := f.pw
      rw [← e] at hpw
      obtain ⟨p1, p2, p3⟩ := List.pairwise_append.1 hpw
      refine List.pairwise_append.2 ⟨p1, List.pairwise_cons.2 ⟨fun y hy => .inl (h2 y hy), p2⟩, fun x hx y hy => ?_⟩
      rcases List.mem_cons.1 hy with hy | hy
      · subst hy
        have a1 := h1 x hx
        have a2 := f.lt x ((hmem x).2 (.inl hx))
        unfold better; omega
      · exact p3 x hx y hy
    · rcases Nat.lt_or_ge x i with h | h
      · rcases (hmem x).1 (f.all x h) with h | h
        · exact List.mem_append_left _ h
        · exact List.mem_append_right _ (List.mem_cons_of_mem _ h)
      · have : x = i := by omega
        subst this
        exact List.mem_append_right _ (List.mem_cons_self ..)
def shTo (out : List Int) (o : List Nat) (j : Nat) : List Int := (o.take j).foldl (fun s x => s.set x (vAt s x + 1)) out
def restTo (R : List Int) (o : List Nat) (j : Nat) : List Int := (o.take j).foldl (fun s x => s.set x (-1)) R
theorem shTo_zero {out : List Int} {o : List Nat} : shTo out o 0 = out := rfl
theorem restTo_zero {out : List Int} {o : List Nat} : restTo out o 0 = out := rfl
theorem shTo_succ {out : List Int} {o : List Nat} {j x : Nat} (h : o[j]? = some x) : shTo out o (j + 1) = (shTo out o j).set x (vAt (shTo out o j) x + 1) := by
  unfold shTo; rw [List.take_succ, h, List.foldl_append]; rfl
theorem restTo_succ {out : List Int} {o : List Nat} {j x : Nat} (h : o[j]? = some x) : restTo out o (j + 1) = (restTo out o j).set x (-1) := by
  unfold restTo; rw [List.take_succ, h, List.foldl_append]; rfl
theorem shTo_len {out : List Int} {o : List Nat} : ∀ j : Nat, (shTo out o j).length = out.length
  | 0 => rfl
  | j + 1 => by
    cases h : o[j]? with
    | none =>
      have hl : o.length ≤ j := by simpa using h
      have e : shTo out o (j + 1) = shTo out o j := by unfold shTo; rw [List.take_of_length_le (by omega), List.take_of_length_le hl]
      rw [e, shTo_len j]
    | some x => rw [shTo_succ h, List.length_set, shTo_len j]
theorem restTo_len {out : List Int} {o : List Nat} : ∀ j : Nat, (restTo out o j).length = out.length
  | 0 => rfl
  | j + 1 => by
    cases h : o[j]? with
    | none =>
      have hl : o.length ≤ j := by simpa using h
      have e : restTo out o (j + 1) = restTo out o j := by unfold restTo; rw [List.take_of_length_le (by omega), List.take_of_length_le hl]
      rw [e, restTo_len j]
    | some x => rw [restTo_succ h, List.length_set, restTo_len j]
theorem vAt_set {l : List Int} {i j : Nat} {v : Int} (h : i < l.length) : vAt (l.set i v) j = if i = j then v else vAt l j := by
  unfold vAt
  rw [List.getElem?_set]
  by_cases e : i = j
  · simp [e, e ▸ h]
  · simp [e]
theorem restTo_at {R : List Int} {o : List Nat} (ho : ∀ x ∈ o, x < R.length) : ∀ (j y : Nat), vAt (restTo R o j) y = if y ∈ o.take j then -1 else vAt R y
  | 0, y => by simp [restTo_zero]
  | j + 1, y => by
    cases h : o[j]? with
    | none =>
      have hl : o.length ≤ j := by simpa using h
      have e : restTo R o (j + 1) = restTo R o j := by unfold restTo; rw [List.take_of_length_le (by omega), List.take_of_length_le hl]
      rw [e, restTo_at ho j y, List.take_of_length_le hl, List.take_of_length_le (by omega)]
    | some x =>
      rw [restTo_succ h, vAt_set (by rw [restTo_len]; exact ho x (List.mem_of_getElem? h)), restTo_at ho j y, List.take_succ, h]
      by_cases e : x = y
      · simp [e]
      · have : y ≠ x := fun h => e h.symm
        simp [e, this]
theorem pick_is {R : List Int} (hR : ∀ x, 0 ≤ vAt R x) {j a : Nat} (h : (ordI R R.length)[j]? = some a) : amaxTo (restTo R (ordI R R.length) j) (restTo R (ordI R R.length) j).length = a := by
  have f := ordFacts R R.length
  generalize ordI R R.length = o at *
  have hj := (List.getElem?_eq_some_iff.1 h).1
  have ha := f.lt a (List.mem_of_getElem? h)
  have irr : ∀ x, ¬ better R x x := fun x h => by unfold better at h; omega
  have hsplit : o = o.take j ++ a :: o.drop (j + 1) := by
    rw [← (List.getElem?_eq_some_iff.1 h).2, List.getElem_cons_drop, List.take_append_drop]
  have hpw := f.pw
  rw [hsplit] at hpw
  obtain ⟨p1, p2, p3⟩ := List.pairwise_append.1 hpw
  have hnot : a ∉ o.take j := fun hm => irr a (p3 a hm a (by simp))
  have hat := restTo_at (R := R) f.lt j
  have hva : vAt (restTo R o j) a = vAt R a := by rw [hat, if_neg hnot]
  have key : ∀ x, x < R.length → x ∉ o.take j → x = a ∨ better R a x := by
    intro x hx hn
    have := f.all x hx
    rw [hsplit] at this
    rcases List.mem_append.1 this with h1 | h1
    · exact absurd h1 hn
    · rcases List.mem_cons.1 h1 with h1 | h1
      · exact .inl h1
      · exact .inr ((List.pairwise_cons.1 p2).1 x h1)
  rw [restTo_len]
  refine amaxTo_eq ha (fun x hx => ?_) (fun x hx => ?_) (by rw [restTo_len]; exact Nat.le_refl _)
  · rw [hva, hat]
    split
    · have := hR a; omega
    · rename_i hn
      rcases key x hx hn with e | e
      · subst e; exact Int.le_refl _
      · unfold better at e; omega
  · rw [hva, hat]
    split
    · have := hR a; omega
    · rename_i hn
      rcases key x (by omega) hn with e | e
      · omega
      · unfold better at e; omega
def shareF : Nat → List Int → List Int → List Int
  | 0, out, _ => out
  | n + 1, out, rest => shareF n (out.set (amaxTo rest rest.length) (vAt out (amaxTo rest rest.length) + 1)) (rest.set (amaxTo rest rest.length) (-1))
theorem shareF_is {R Q : List Int} (hR : ∀ x, 0 ≤ vAt R x) : ∀ (m j : Nat), j + m ≤ R.length → shareF m (shTo Q (ordI R R.length) j) (restTo R (ordI R R.length) j) = shTo Q (ordI R R.length) (j + m)
  | 0, j, _ => rfl
  | m + 1, j, h => by
    have hj : j < (ordI R R.length).length := by rw [(ordFacts R R.length).len]; omega
    obtain ⟨a, ha⟩ : ∃ a, (ordI R R.length)[j]? = some a := ⟨_, List.getElem?_eq_getElem hj⟩
    have hp := pick_is hR ha
    unfold shareF
    rw [hp, ← shTo_succ ha, ← restTo_succ ha, shareF_is hR m (j + 1) (by omega)]
    congr 1; omega
def quota (t s w : Int) : Int := (t * w).tdiv s
def remn (t s w : Int) : Int := (t * w).tmod s
def okShare (t : Int) (ws : List Int) : Bool := inRange t 0 1000000000 && decide (1 ≤ ws.length) && decide (ws.length ≤ 12) && ws.all (fun w => inRange w 0 1000000) && decide (ws.sum ≠ 0)
def restOf (t : Int) (ws : List Int) : Int := t - (ws.map (quota t ws.sum)).sum
def ShareOut (t : Int) (ws : List Int) : List Int := if okShare t ws then shareF (restOf t ws).toNat (ws.map (quota t ws.sum)) (ws.map (remn t ws.sum)) else []
structure ShareFacts (t : Int) (ws : List Int) : Prop where
  tot : 0 ≤ t ∧ t ≤ 1000000000
  len : 1 ≤ ws.length ∧ ws.length ≤ 12
  rng : ∀ w ∈ ws, 0 ≤ w ∧ w ≤ 1000000
  sum : 1 ≤ ws.sum ∧ ws.sum ≤ 12000000
theorem sum_bnd {l : List Int} {m : Int} (h : ∀ x ∈ l, 0 ≤ x ∧ x ≤ m) : 0 ≤ l.sum ∧ l.sum ≤ m * l.length := by
  induction l with
  | nil => simp
  | cons a l ih =>
    have h1 := ih fun x hx => h x (by simp [hx])
    have h2 := h a (by simp)
    simp only [List.sum_cons, List.length_cons, Int.natCast_add, Int.natCast_one, Int.mul_add, Int.mul_one]
    omega
theorem shareFacts {t : Int} {ws : List Int} (h : okShare t ws = true) : ShareFacts t ws := by
  simp only [okShare, Bool.and_eq_true, decide_eq_true_eq, List.all_eq_true] at h
  obtain ⟨⟨⟨⟨h1, h2⟩, h3⟩, h4⟩, h5⟩ := h
  have hr : ∀ w ∈ ws, 0 ≤ w ∧ w ≤ 1000000 := fun w hw => inRange_iff.1 (h4 w hw)
  have hs := sum_bnd hr
  exact ⟨inRange_iff.1 h1, ⟨h2, h3⟩, hr, by omega⟩
theorem quota_rng {t s w : Int} (ht : 0 ≤ t ∧ t ≤ 1000000000) (hs : 1 ≤ s) (hw : 0 ≤ w ∧ w ≤ 1000000) : 0 ≤ quota t s w ∧ quota t s w ≤ 1000000000000000 ∧ 0 ≤ remn t s w ∧ remn t s w < s ∧ s * quota t s w + remn t s w = t * w ∧ 0 ≤ t * w ∧ t * w ≤ 1000000000000000 := by
  have h0 : 0 ≤ t * w := Int.mul_nonneg ht.1 hw.1
  have h1 : t * w ≤ 1000000000 * 1000000 := Int.mul_le_mul ht.2 hw.2 hw.1 (by omega)
  unfold quota remn
  rw [Int.tdiv_eq_ediv_of_nonneg h0, Int.tmod_eq_emod_of_nonneg h0]
  have a1 := Int.emod_nonneg (t * w) (show s ≠ 0 by omega)
  have a2 := Int.emod_lt_of_pos (t * w) (show 0 < s by omega)
  have a3 := Int.mul_ediv_add_emod (t * w) s
  have a4 : 0 ≤ t * w / s := Int.ediv_nonneg h0 (by omega)
  have a5 : t * w / s ≤ t * w := Int.ediv_le_self _ h0
  exact ⟨a4, by omega, a1, a2, a3, h0, by omega⟩
theorem share_sums {t s : Int} (ht : 0 ≤ t ∧ t ≤ 1000000000) (hs : 1 ≤ s) : ∀ {ws : List Int}, (∀ w ∈ ws, 0 ≤ w ∧ w ≤ 1000000) → s * (ws.map (quota t s)).sum + (ws.map (remn t s)).sum = t * ws.sum
  | [], _ => by simp
  | w :: ws, h => by
    have ih := share_sums ht hs (ws := ws) fun x hx => h x (by simp [hx])
    have q := (quota_rng (t := t) (s := s) ht hs (h w (by simp))).2.2.2.2.1
    simp only [List.map_cons, List.sum_cons, Int.mul_add]
    omega
theorem left_rng {t : Int} {ws : List Int} (h : ShareFacts t ws) : 0 ≤ restOf t ws ∧ restOf t ws < ws.length := by
  have hs := share_sums h.tot h.sum.1 h.rng
  have hr := sum_bnd (l := ws.map (remn t ws.sum)) (m := ws.sum - 1) (fun x hx => by
    obtain ⟨w, hw, rfl⟩ := List.mem_map.1 hx
    have := quota_rng h.tot h.sum.1 (h.rng w hw)
    omega)
  rw [List.length_map] at hr
  have e : ws.sum * restOf t ws = (ws.map (remn t ws.sum)).sum := by
    unfold restOf; rw [Int.mul_sub, Int.mul_comm ws.sum t]; omega
  have hp := h.sum.1
  have hl := h.len.1
  constructor
  · rcases Int.lt_or_le (restOf t ws) 0 with h1 | h1
    · have := Int.mul_neg_of_pos_of_neg (show 0 < ws.sum by omega) h1
      omega
    · exact h1
  · rcases Int.lt_or_le (restOf t ws) ws.length with h1 | h1
    · exact h1
    · have h2 := Int.mul_le_mul_of_nonneg_left h1 (show 0 ≤ ws.sum by omega)
      have h3 : (ws.sum - 1) * (ws.length : Int) < ws.sum * (ws.length : Int) := Int.mul_lt_mul_of_pos_right (by omega) (by omega)
      omega
theorem ShareOut_is {t : Int} {ws : List Int} (h : okShare t ws = true) : ShareOut t ws = shTo (ws.map (quota t ws.sum)) (ordI (ws.map (remn t ws.sum)) ws.length) (restOf t ws).toNat := by
  have f := shareFacts h
  have hl := left_rng f
  have hR : ∀ x, 0 ≤ vAt (ws.map (remn t ws.sum)) x := by
    intro x
    unfold vAt
    cases hx : (ws.map (remn t ws.sum))[x]? with
    | none => simp
    | some r =>
      rw [List.getElem?_map, Option.map_eq_some_iff] at hx
      obtain ⟨w, hw, rfl⟩ := hx
      exact (quota_rng f.tot f.sum.1 (f.rng w (List.mem_of_getElem? hw))).2.2.1
  have key := shareF_is (Q := ws.map (quota t ws.sum)) hR (restOf t ws).toNat 0 (by rw [List.length_map]; omega)
  rw [shTo_zero, restTo_zero, List.length_map, Nat.zero_add] at key
  rw [ShareOut, if_pos h, key]
def nzenc (x : Nat) : List C := [.i x]
theorem ShareCmp_c (t s : Int) (ws : List Int) (ht : 0 ≤ t ∧ t ≤ 1000000000) (hs : 1 ≤ s) (hs2 : s ≤ 12000000) (hw : ∀ w ∈ ws, 0 ≤ w ∧ w ≤ 1000000) (x y : Nat) (hx : x < ws.length) (hy : y < ws.length) :
    PureF Try.prog n_impl_ShareOut_1 [.c (.i x), .c (.i y), .elt [.i t], .elt [.sl 1 (ws.map ienc)], .elt [.i s]] (.c (.i (vAt (ws.map (remn t s)) y - vAt (ws.map (remn t s)) x))) := by
  obtain ⟨wx, hwx⟩ : ∃ e, ws[x]? = some e := ⟨_, List.getElem?_eq_getElem hx⟩
  obtain ⟨wy, hwy⟩ : ∃ e, ws[y]? = some e := ⟨_, List.getElem?_eq_getElem hy⟩
  have g1 := (List.getElem?_eq_some_iff.1 hwx).2
  have g2 := (List.getElem?_eq_some_iff.1 hwy).2
  have q1 := quota_rng ht hs (hw wx (List.mem_of_getElem? hwx))
  have q2 := quota_rng ht hs (hw wy (List.mem_of_getElem? hwy))
  have e1 : vAt (ws.map (remn t s)) x = remn t s wx := vAt_eq (by simp [hwx])
  have e2 : vAt (ws.map (remn t s)) y = remn t s wy := vAt_eq (by simp [hwy])
  rw [e1, e2]
  unfold remn at *
  refine pure_of h_impl_ShareOut_1 (by simp) fun hwf => ?_
  simp -dsimp -implicitDefEqProofs [c_impl_ShareOut_1, hwx, hwy, g1, g2, hx, hy]
  refine ⟨by unfold inI; omega, by omega, by unfold inI; omega, by unfold inI; omega, by omega, by unfold inI; omega, by unfold inI; omega⟩
def sortO (R : List Int) (i n : Nat) : List Nat := ordI R i ++ List.range' i (n - i)
def sortM (l1 l2 : List Nat) (i n : Nat) : List Nat := (l1 ++ i :: l2) ++ List.range' (i + 1) (n - (i + 1))
theorem sortO_one {R : List Int} {n : Nat} (h : 1 ≤ n) : sortO R 1 n = List.range n := by
  have : ordI R 1 = [0] := rfl
  unfold sortO
  rw [this, List.range_eq_range', show n = (n - 1) + 1 by omega, List.range'_succ]; simp
theorem sortO_all {R : List Int} {n : Nat} : sortO R n n = ordI R n := by simp [sortO]
theorem sortO_go {R : List Int} {i n : Nat} (h : i < n) : sortO R i n = sortM (ordI R i) [] i n := by
  unfold sortO sortM
  rw [show n - i = (n - (i + 1)) + 1 by omega, List.range'_succ]; simp
theorem sortM_end {R : List Int} {i n : Nat} {l1 l2 : List Nat} (h : ordI R (i + 1) = l1 ++ i :: l2) : sortM l1 l2 i n = sortO R (i + 1) n := by unfold sortO sortM; rw [h]
theorem sortM_len {i n : Nat} {l1 l2 : List Nat} (h : l1.length + l2.length = i) (h2 : i < n) : (sortM l1 l2 i n).length = n := by simp [sortM]; omega
theorem sortM_swp {i n y : Nat} {l l2 : List Nat} : (sortM (l ++ [y]) l2 i n)[l.length + 1]? = some i ∧ (sortM (l ++ [y]) l2 i n)[l.length]? = some y ∧
    ((sortM (l ++ [y]) l2 i n).set (l.length + 1) y).set l.length i = sortM l (y :: l2) i n := by
  unfold sortM
  simp only [List.append_assoc, List.cons_append, List.nil_append]
  refine ⟨by simp [List.getElem?_append], by simp [List.getElem?_append], ?_⟩
  simp [List.set_append]
theorem insSort_c (R : List Int) (n : Nat) (hn : 1 ≤ n) (hn2 : n ≤ 1000) (f : Nat) (a b c : List C) (hf : ∃ fn, Try.prog.funcs[f]? = some fn ∧ fn.body.isSome = true ∧ (fn.name != "runtime.NumGoroutine") = true)
    (hc : ∀ x y : Nat, x < n → y < n → PureF Try.prog f [.c (.i x), .c (.i y), .elt a, .elt b, .elt c] (.c (.i (vAt R y - vAt R x)))) :
    InF Try.prog n_slices_insertionSortCmpFunc_int_ (.c (cw 1 ((List.range n).map nzenc))) (.c (cw 1 ((ordI R n).map nzenc))) [.c (.i 0), .c (.i n), .fn f [.elt a, .elt b, .elt c]] (.tup []) := by
  have hon := ordFacts R n
  rw [cw_pos (by simp; omega), cw_pos (by rw [List.length_map, hon.len]; omega)]
  refine in_of h_slices_insertionSortCmpFunc_int_ (by simp) (by simp) rfl fun hwf => ?_
  simp -dsimp -implicitDefEqProofs [c_slices_insertionSortCmpFunc_int_]
  refine ⟨by unfold inI; omega, ?_⟩
  refine loop_rule (ι := Nat) (fun i => 1 ≤ i ∧ i ≤ n) (fun i => stOf [(0, .own 0 1 n), (1, .c (.i 0)), (2, .c (.i n)), (3, .fn f [.elt a, .elt b, .elt c]), (8, .c (.i i)), (1000000, .own 0 1 n)] [(0, .row 1 ((sortO R i n).map nzenc))]) (fun i => n - i) 1 ⟨Nat.le_refl _, hn⟩ (by apply le_of <;> simp [AV.refs1, AV.ref0, Obj.refs1, sortO_one hn]) ?_
  rintro i ⟨hi1, hi⟩
  have fi := ordFacts R i
  rcases Nat.lt_or_ge i n with hlt | hge
  · simp -dsimp -implicitDefEqProofs [lt_t hlt]
    rw [sortO_go hlt]
    have hsuc : ordI R (i + 1) = insI R i (ordI R i) := rfl
    generalize ordI R i = P at *
    refine loop_rule (ι := List Nat × List Nat) (fun p => p.1 ++ p.2 = P ∧ ∀ x ∈ p.2, vAt R x < vAt R i) (fun p => stOf [(0, .own 0 1 n), (1, .c (.i 0)), (2, .c (.i n)), (3, .fn f [.elt a, .elt b, .elt c]), (8, .c (.i i)), (9, .c (.i p.1.length)), (1000000, .own 0 1 n)] [(0, .row 1 ((sortM p.1 p.2 i n).map nzenc))]) (fun p => p.1.length) (P, []) ⟨by simp, by simp⟩ (by apply le_of <;> simp [AV.refs1, AV.ref0, Obj.refs1, fi.len]) ?_
    rintro ⟨l1, l2⟩ ⟨he, h2⟩
    simp only at he h2
    rcases List.eq_nil_or_concat l1 with e | ⟨l, y, e⟩
    · subst e
      have hins := insI_of (R := R) (i := i) fi.pw he h2 (fun l y h => by simp at h)
      rw [← hsuc] at hins
      have hend := sortM_end (n := n) hins
      simp -dsimp -implicitDefEqProofs
      refine ⟨by unfold inI; omega, i + 1, ⟨by omega, by omega⟩, by omega, ?_⟩
      apply le_of <;> simp [AV.refs1, AV.ref0, Obj.refs1, hend]
    · rw [List.concat_eq_append] at e
      subst e
      have hlen := sortM_len (n := n) (l1 := l ++ [y]) (l2 := l2) (by rw [← List.length_append, he, fi.len]) hlt
      have hyP : y < i := fi.lt y (by rw [← he]; simp)
      obtain ⟨w1, w2, w3⟩ := sortM_swp (i := i) (n := n) (y := y) (l := l) (l2 := l2)
      have hend := fun h => sortM_end (n := n) (R := R) (l1 := l ++ [y]) (l2 := l2) (i := i) (by rw [hsuc]; exact insI_of (R := R) (i := i) fi.pw he h2 h)
      have hll : l.length + 1 < n := by rw [← hlen]; exact (List.getElem?_eq_some_iff.1 w1).1
      have e0 : (((l ++ [y]).length : Nat) : Int) = ((l.length + 1 : Nat) : Int) := by simp
      rw [e0]
      generalize sortM (l ++ [y]) l2 i n = M at *
      obtain ⟨m, hm⟩ : ∃ m, m = l.length := ⟨_, rfl⟩
      obtain ⟨j, hj⟩ : ∃ j, j = l.length + 1 := ⟨_, rfl⟩
      rw [← hj] at w1 w3 hll ⊢
      rw [← hm] at w2 w3
      have v1 := (List.getElem?_eq_some_iff.1 w1).2
      have v2 := (List.getElem?_eq_some_iff.1 w2).2
      have k1 : j < M.length := (List.getElem?_eq_some_iff.1 w1).1
      have k2 : m < M.length := (List.getElem?_eq_some_iff.1 w2).1
      have ej : ((j : Int) - 1) = (m : Int) := by omega
      have j0 : 0 < j := by omega
      have mn : m < n := by omega
      have hf' : ∃ fn, Try.prog.funcs[f]? = some fn ∧ fn.body.isSome = true ∧ ¬fn.name = "runtime.NumGoroutine" := by simpa using hf
      simp -dsimp -implicitDefEqProofs [j0, ej, w1, w2, v1, v2, k1, k2, nzenc, hll, mn]
      refine ⟨by unfold inI; omega, hf', ?_⟩
      first
        | refine call_lend (hc i y (by omega) (by omega)) (by simp) rfl ?_
        | refine call_pure (hc i y (by omega) (by omega)) (by simp) rfl ?_
        | refine ⟨_, _, hc i y (by omega) (by omega), by simp, .inr rfl, ?_⟩
        | refine ⟨_, _, hc i y (by omega) (by omega), by simp, .inl rfl, ?_⟩
        | refine callE_pure (hc i y (by omega) (by omega)) (by simp) (.inr rfl) ?_
        | refine callE_pure (hc i y (by omega) (by omega)) (by simp) (.inl rfl) ?_
      have hr2 : ∀ h, ((M.map nzenc).set j [C.i y])[m]'h = [C.i y] := by intro h; rw [List.getElem_set_ne (by omega)]; simp [v2, nzenc]
      have hs3 : ((M.map nzenc).set j [C.i y]).set m [C.i i] = (sortM l (y :: l2) i n).map nzenc := by rw [← w3, List.map_set, List.map_set]; rfl
      simp -dsimp -implicitDefEqProofs [ej, w1, w2, v1, v2, k1, k2, hll, mn, hr2, hs3]
      refine ⟨fun hcm => ?_, fun hcm => ?_⟩
      · refine ⟨by unfold inI; omega, l, y :: l2, ⟨by rw [← he]; simp, fun x hx => ?_⟩, by omega, ?_⟩
        · rcases List.mem_cons.1 hx with hx | hx
          · subst hx; omega
          · exact h2 x hx
        · apply le_of <;> simp [AV.refs1, AV.ref0, Obj.refs1, nzenc, w1, w2, v1, v2, ← hm, hr2, hs3]
      · have hM := hend fun l' y' h => by
          have := (List.append_inj' h rfl).2
          simp at this; subst this; omega
        refine ⟨by unfold inI; omega, i + 1, ⟨by omega, by omega⟩, by omega, ?_⟩
        apply le_of <;> simp [AV.refs1, AV.ref0, Obj.refs1, hM]
  · have : i = n := by omega
    subst this
    simp -dsimp -implicitDefEqProofs
    rw [sortO_all]
    refine ⟨by rw [List.take_of_length_le (by rw [List.length_map, fi.len]; exact Nat.le_refl _)], ?_⟩
    simp [resP]
theorem stable_c (R : List Int) (n : Nat) (hn : 1 ≤ n) (hn2 : n ≤ 19) (f : Nat) (a b c : List C) (hf : ∃ fn, Try.prog.funcs[f]? = some fn ∧ fn.body.isSome = true ∧ (fn.name != "runtime.NumGoroutine") = true)
    (hc : ∀ x y : Nat, x < n → y < n → PureF Try.prog f [.c (.i x), .c (.i y), .elt a, .elt b, .elt c] (.c (.i (vAt R y - vAt R x)))) :
    InF Try.prog n_slices_stableCmpFunc_int_ (.c (cw 1 ((List.range n).map nzenc))) (.c (cw 1 ((ordI R n).map nzenc))) [.c (.i n), .fn f [.elt a, .elt b, .elt c]] (.tup []) := by
  have hon := ordFacts R n
  have hi := insSort_c R n hn (by omega) f a b c hf hc
  have hcw : cw 1 ((ordI R n).map nzenc) = .ow 1 ((ordI R n).map nzenc) := cw_pos (by rw [List.length_map, hon.len]; omega)
  have hcw0 : cw 1 ((List.range n).map nzenc) = .ow 1 ((List.range n).map nzenc) := cw_pos (by simp; omega)
  have n1 : ((20 : Int) ≤ (n : Int)) = False := by simp; omega
  have n2 : ((20 : Int) < (n : Int)) = False := by simp; omega
  have n3 : (20 ≤ n) = False := by simp; omega
  have n4 : (20 < n) = False := by simp; omega
  rw [hcw, hcw0]
  refine in_of h_slices_stableCmpFunc_int_ (by simp) (by simp) rfl fun hwf => ?_
  simp -dsimp -implicitDefEqProofs [c_slices_stableCmpFunc_int_]
  refine loop_rule (ι := Unit) (fun _ => True) (fun _ => stOf [(0, .own 0 1 n), (1, .c (.i n)), (2, .fn f [.elt a, .elt b, .elt c]), (6, .c (.i 20)), (7, .c (.i 0)), (8, .c (.i 20)), (1000000, .own 0 1 n)] [(0, .row 1 ((List.range n).map nzenc))]) (fun _ => 0) () trivial (by apply le_of <;> simp [AV.refs1, AV.ref0, Obj.refs1]) ?_
  rintro _ _
  simp -dsimp -implicitDefEqProofs [n1, n3]
  refine call_in1 (up := some (0, .row 1 ((ordI R n).map nzenc))) hi (by simp) rfl rfl (ioC_row (rows := (List.range n).map nzenc) (by simp) rfl rfl (by simp) (by simp [hon.len]) rfl rfl) ?_
  simp -dsimp -implicitDefEqProofs
  refine loop_rule (ι := Unit) (fun _ => True) (fun _ => stOf [(0, .own 0 1 n), (1, .c (.i n)), (6, .c (.i 20)), (1000000, .own 0 1 n)] [(0, .row 1 ((ordI R n).map nzenc))]) (fun _ => 0) () trivial (by apply le_of <;> simp [AV.refs1, AV.ref0, Obj.refs1]) ?_
  rintro _ _
  simp -dsimp -implicitDefEqProofs [n2, n4]
  exact ⟨by rw [List.take_of_length_le (by rw [List.length_map, hon.len]; exact Nat.le_refl _)], by simp [resP]⟩
theorem sortStable_c (R : List Int) (n : Nat) (hn : 1 ≤ n) (hn2 : n ≤ 19) (f : Nat) (a b c : List C) (hf : ∃ fn, Try.prog.funcs[f]? = some fn ∧ fn.body.isSome = true ∧ (fn.name != "runtime.NumGoroutine") = true)
    (hc : ∀ x y : Nat, x < n → y < n → PureF Try.prog f [.c (.i x), .c (.i y), .elt a, .elt b, .elt c] (.c (.i (vAt R y - vAt R x)))) :
    InF Try.prog n_slices_SortStableFunc___int_int_ (.c (cw 1 ((List.range n).map nzenc))) (.c (cw 1 ((ordI R n).map nzenc))) [.fn f [.elt a, .elt b, .elt c]] (.tup []) := by
  have hon := ordFacts R n
  have hi := stable_c R n hn (by omega) f a b c hf hc
  have hcw : cw 1 ((ordI R n).map nzenc) = .ow 1 ((ordI R n).map nzenc) := cw_pos (by rw [List.length_map, hon.len]; omega)
  have hcw0 : cw 1 ((List.range n).map nzenc) = .ow 1 ((List.range n).map nzenc) := cw_pos (by simp; omega)
  rw [hcw, hcw0]
  refine in_of h_slices_SortStableFunc___int_int_ (by simp) (by simp) rfl fun hwf => ?_
  simp -dsimp -implicitDefEqProofs [c_slices_SortStableFunc___int_int_]
  intro _
  refine call_in1 (up := some (0, .row 1 ((ordI R n).map nzenc))) hi (by simp) rfl rfl (ioC_row (rows := (List.range n).map nzenc) (by simp) rfl rfl (by simp) (by simp [hon.len]) rfl rfl) ?_
  simp -dsimp -implicitDefEqProofs
  exact ⟨by rw [List.take_of_length_le (by rw [List.length_map, hon.len]; exact Nat.le_refl _)], by simp [resP]⟩
theorem okShare_no {t : Int} {ws : List Int} (h : okShare t ws = false) : ShareOut t ws = [] := by simp [ShareOut, h]
theorem wsum_rng {ws : List Int} {k : Nat} (h12 : ws.length ≤ 12) (h : ∀ x ∈ ws.take k, inRange x 0 1000000 = true) : 0 ≤ sumTo ws k ∧ sumTo ws k ≤ 12000000 := by
  have := sum_bnd (l := ws.take k) (m := 1000000) fun x hx => inRange_iff.1 (h x hx)
  have e : (ws.take k).length ≤ 12 := by rw [List.length_take]; omega
  unfold sumTo
  omega
theorem shTo_rng {Q : List Int} {o : List Nat} {m : Int} (hm : 0 ≤ m) (hQ : ∀ x ∈ Q, 0 ≤ x ∧ x ≤ m) : ∀ (j : Nat), ∀ x ∈ shTo Q o j, 0 ≤ x ∧ x ≤ m + j
  | 0, x, hx => by have := hQ x hx; omega
  | j + 1, x, hx => by
    have ih := shTo_rng hm hQ (o := o) j
    have e2 : ((j + 1 : Nat) : Int) = j + 1 := by simp
    cases h : o[j]? with
    | none =>
      have hl : o.length ≤ j := by simpa using h
      have e : shTo Q o (j + 1) = shTo Q o j := by unfold shTo; rw [List.take_of_length_le (by omega), List.take_of_length_le hl]
      rw [e] at hx
      have := ih x hx
      omega
    | some a =>
      rw [shTo_succ h] at hx
      rcases List.mem_or_eq_of_mem_set hx with hx | rfl
      · have := ih x hx; omega
      · have : 0 ≤ vAt (shTo Q o j) a ∧ vAt (shTo Q o j) a ≤ m + j := by
          unfold vAt
          cases hv : (shTo Q o j)[a]? with
          | none => simp; omega
          | some v => exact ih v (List.mem_of_getElem? hv)
        omega
theorem ShareOut_impl (t : Int) (ws : List Int) : OwnF Try.prog n_impl_ShareOut [.c (.i t), .c (.sl 1 (ws.map ienc))] (.c (.ow 1 ((ShareOut t ws).map ienc))) := by
  refine own_of h_impl_ShareOut (by simp) fun hwf => ?_
  simp -dsimp -implicitDefEqProofs [c_impl_ShareOut]
  first
    | refine call_lend (inRange_impl t 0 1000000000) (by simp) rfl ?_
    | refine call_pure (inRange_impl t 0 1000000000) (by simp) rfl ?_
    | refine ⟨_, _, inRange_impl t 0 1000000000, by simp, .inr rfl, ?_⟩
    | refine ⟨_, _, inRange_impl t 0 1000000000, by simp, .inl rfl, ?_⟩
    | refine callE_pure (inRange_impl t 0 1000000000) (by simp) (.inr rfl) ?_
    | refine callE_pure (inRange_impl t 0 1000000000) (by simp) (.inl rfl) ?_
  cases ht : inRange t 0 1000000000 with
  | false => simp -dsimp -implicitDefEqProofs; rw [okShare_no (by simp [okShare, ht])]
  | true =>
  simp -dsimp -implicitDefEqProofs
  refine fun hlen => ⟨fun h1 => ?_, fun h1 => ?_⟩
  rotate_left
  · rw [okShare_no (by simp [okShare]; omega)]
  refine fun _ => ⟨fun h12 => by rw [okShare_no (by simp [okShare]; omega)], fun h12 => ?_⟩
  have h12 : ws.length ≤ 12 := by omega
  have h1 : 1 ≤ ws.length := by omega
  refine fun _ => loop_rule (ι := Nat) (fun k => k ≤ ws.length ∧ ∀ x ∈ ws.take k, inRange x 0 1000000 = true) (fun k => stOf [(2, .box 2 0), (3, .box 3 0), (5, .box 5 0), (27, .c (.sl 1 (ws.map ienc))), (28, .c (.i ws.length)), (29, .c (.i k))] [(2, .box [.c (.i t)]), (3, .box [.c (.sl 1 (ws.map ienc))]), (5, .box [.c (.i (sumTo ws k))])]) (fun k => ws.length - k) 0 (by simp) (by apply le_of <;> simp [AV.refs1, AV.ref0, Obj.refs1, sumTo_zero]) ?_
  rintro k ⟨hk, hall⟩
  rcases Nat.lt_or_ge k ws.length with hlt | hge
  · obtain ⟨x, hx⟩ : ∃ x, ws[k]? = some x := ⟨_, List.getElem?_eq_getElem hlt⟩
    have g1 := (List.getElem?_eq_some_iff.1 hx).2
    simp -dsimp -implicitDefEqProofs [hx, g1, lt_t hlt, hlt]
    first
      | refine call_lend (inRange_impl x 0 1000000) (by simp) rfl ?_
      | refine call_pure (inRange_impl x 0 1000000) (by simp) rfl ?_
      | refine ⟨_, _, inRange_impl x 0 1000000, by simp, .inr rfl, ?_⟩
      | refine ⟨_, _, inRange_impl x 0 1000000, by simp, .inl rfl, ?_⟩
      | refine callE_pure (inRange_impl x 0 1000000) (by simp) (.inr rfl) ?_
      | refine callE_pure (inRange_impl x 0 1000000) (by simp) (.inl rfl) ?_
    cases hr : inRange x 0 1000000 with
    | false => simp -dsimp -implicitDefEqProofs; rw [okShare_no (by have := all_false (p := fun w => inRange w 0 1000000) hx hr; simp [okShare, this])]
    | true =>
      simp -dsimp -implicitDefEqProofs
      have hall' := all_take_succ (p := fun n => inRange n 0 1000000) hx hall hr
      have hs := wsum_rng h12 hall'
      rw [sumTo_succ hx] at hs
      refine ⟨by unfold inI; omega, inI_succ hlt hlen, k + 1, ⟨hlt, hall'⟩, by omega, ?_⟩
      apply le_of <;> simp [AV.refs1, AV.ref0, Obj.refs1, sumTo_succ hx]
  · have hall2 := all_of_take (p := fun n => inRange n 0 1000000) hge hall
    simp -dsimp -implicitDefEqProofs [lt_f hge]
    rw [sumTo_all hge]
    refine ⟨fun h0 => by rw [okShare_no (by simp [okShare, h0])], fun h0 => ?_⟩
    have hok : okShare t ws = true := by simp [okShare, ht, h12, h1, hall2, h0]
    have f := shareFacts hok
    have hlft := left_rng f
    rw [ShareOut_is hok]
    have ft := f.tot; have fs := f.sum; have frng := f.rng
    refine fun _ => ⟨by omega, fun _ => ⟨by omega, fun _ => ?_⟩⟩
    obtain ⟨Q, hQd⟩ : ∃ Q, Q = ws.map (quota t ws.sum) := ⟨_, rfl⟩
    have hQl : Q.length = ws.length := by rw [hQd, List.length_map]
    have hQr : ∀ q ∈ Q, 0 ≤ q ∧ q ≤ 1000000000000000 := fun q hq => by
      rw [hQd] at hq
      obtain ⟨w, hw, rfl⟩ := List.mem_map.1 hq
      have := quota_rng ft fs.1 (frng w hw)
      omega
    have hrest : restOf t ws = t - Q.sum := by rw [hQd]; rfl
    rw [← hQd]
    refine loop_rule (ι := Nat) (fun k => k ≤ ws.length) (fun k => stOf [(2, .box 2 0), (3, .box 3 0), (5, .box 5 0), (8, .own 44 1 ws.length), (9, .own 47 1 ws.length), (10, .c (.i (t - sumTo Q k))), (49, .c (.sl 1 (ws.map ienc))), (50, .c (.i ws.length)), (51, .c (.i k))]
      [(2, .box [.c (.i t)]), (3, .box [.c (.sl 1 (ws.map ienc))]), (5, .box [.c (.i ws.sum)]), (44, .row 1 (partly ienc [.i 0] Q k)), (47, .row 1 (partly nzenc [.i 0] (List.range ws.length) k))]) (fun k => ws.length - k) 0 (by simp) (by apply le_of <;> simp [AV.refs1, AV.ref0, Obj.refs1, sumTo_zero, partly_zero, hQl]) ?_
    clear hall hk hge k
    rintro k hk
    rcases Nat.lt_or_ge k ws.length with hlt | hge
    · obtain ⟨w, hw⟩ : ∃ x, ws[k]? = some x := ⟨_, List.getElem?_eq_getElem hlt⟩
      have g1 := (List.getElem?_eq_some_iff.1 hw).2
      have hQ : Q[k]? = some (quota t ws.sum w) := by rw [hQd]; simp [hw]
      have hO : (List.range ws.length)[k]? = some k := by simp [hlt]
      have q1 := quota_rng ft fs.1 (frng w (List.mem_of_getElem? hw))
      have hs1 := partly_set (f := ienc) (z := [.i 0]) hQ
      have hs2 := partly_set (f := nzenc) (z := [.i 0]) hO
      have hl1 := partly_len (f := ienc) (z := [.i 0]) (es := Q) (k := k) (by omega)
      have hl2 := partly_len (f := nzenc) (z := [.i 0]) (es := List.range ws.length) (k := k) (by simp; omega)
      have hd1 : ((partly ienc [.i 0] Q k)[k]?.getD []).set 0 (.i (quota t ws.sum w)) = [.i (quota t ws.sum w)] := by
        have := partly_get (f := ienc) (z := [.i 0]) (n := 1) (es := Q) (k := k) rfl (fun _ => rfl) (by omega)
        obtain ⟨x, hx⟩ := List.length_eq_one_iff.1 this
        rw [hx]; rfl
      have hd2 : ((partly nzenc [.i 0] (List.range ws.length) k)[k]?.getD []).set 0 (.i k) = [.i k] := by
        have := partly_get (f := nzenc) (z := [.i 0]) (n := 1) (es := List.range ws.length) (k := k) rfl (fun _ => rfl) (by simp; omega)
        obtain ⟨x, hx⟩ := List.length_eq_one_iff.1 this
        rw [hx]; rfl
      rw [List.length_range] at hl2
      have hsum := sumTo_succ hQ
      have hb1 := sum_bnd (l := Q.take k) (m := 1000000000000000) fun x hx => hQr x (List.mem_of_mem_take hx)
      have hbl : (Q.take k).length ≤ 12 := by rw [List.length_take]; omega
      have hb1' : 0 ≤ sumTo Q k ∧ sumTo Q k ≤ 12000000000000000 := by unfold sumTo; omega
      have hqd : (t * w).tdiv ws.sum = quota t ws.sum w := rfl
      have hs1' : (partly ienc [.i 0] Q k).set k [.i (quota t ws.sum w)] = partly ienc [.i 0] Q (k + 1) := hs1
      have hs2' : (partly nzenc [.i 0] (List.range ws.length) k).set k [.i k] = partly nzenc [.i 0] (List.range ws.length) (k + 1) := hs2
      have hself : (partly ienc [.i 0] Q (k + 1))[k]? = some [.i (quota t ws.sum w)] := by rw [← hs1']; exact List.getElem?_set_self (by omega)
      generalize partly ienc [.i 0] Q k = A at *
      generalize hA' : partly ienc [.i 0] Q (k + 1) = A' at *
      generalize partly nzenc [.i 0] (List.range ws.length) k = B at *
      generalize hB' : partly nzenc [.i 0] (List.range ws.length) (k + 1) = B' at *
      have hk1 : k < A.length := by omega
      have hk2 : k < B.length := by omega
      have hd1' : A[k].set 0 (C.i (quota t ws.sum w)) = [C.i (quota t ws.sum w)] := by rw [List.getElem?_eq_getElem hk1] at hd1; exact hd1
      have hd2' : B[k].set 0 (C.i k) = [C.i k] := by rw [List.getElem?_eq_getElem hk2] at hd2; exact hd2
      simp -dsimp -implicitDefEqProofs [hw, g1, lt_t hlt, hlt, hqd, hl1, hl2, hd1', hd2', hs1', hs2', hself, hQl]
      have hl3 : A'.length = Q.length := by rw [← hs1', List.length_set, hl1]
      refine ⟨by unfold inI; omega, by omega, by unfold inI; omega, by omega, ?_⟩
      refine ⟨by unfold inI; omega, ?_⟩
      refine ⟨by unfold inI; omega, k + 1, hlt, by omega, ?_⟩
      apply le_of <;> simp [AV.refs1, AV.ref0, Obj.refs1, hd1', hd2', hs1', hs2', hsum, hA', hB']
      omega
    · have hkn : k = ws.length := by omega
      subst hkn
      have p1 := partly_all (f := ienc) (z := [.i 0]) (es := Q) (k := ws.length) (by omega)
      have p2 := partly_all (f := nzenc) (z := [.i 0]) (es := List.range ws.length) (k := ws.length) (by simp)
      simp -dsimp -implicitDefEqProofs [p1, p2]
      rw [sumTo_all (by omega), ← hrest]
      have hord := ordFacts (ws.map (remn t ws.sum)) ws.length
      have hR : (ws.map (remn t ws.sum)).length = ws.length := by simp
      have hcmp := ShareCmp_c t ws.sum ws ft fs.1 fs.2 frng
      have hsort := sortStable_c (ws.map (remn t ws.sum)) ws.length h1 (by omega) n_impl_ShareOut_1 [.i t] [.sl 1 (ws.map ienc)] [.i ws.sum] ⟨Try.f95, Try.func95, rfl, by decide⟩ hcmp
      generalize ordI (ws.map (remn t ws.sum)) ws.length = o at *
      refine call_in1b (up := some (47, .row 1 (o.map nzenc))) hsort ⟨lnt_fn ⟨lnt1_box (by simp) (by simp [upIds]), lnt1_box (by simp) (by simp [upIds]), lnt1_box (by simp) (by simp [upIds]), trivial⟩, trivial⟩ (by rw [cw_pos (by rw [List.length_map, hord.len]; omega)]; simp [C.closed, nzenc]) rfl (ioC_row (rows := (List.range ws.length).map nzenc) (by simp) rfl rfl (by simp) (by simp [hord.len]) rfl rfl) ?_
      have hp1 : ∀ x ∈ o, x < Q.length := fun x hx => by have := hord.lt x hx; omega
      simp -dsimp -implicitDefEqProofs
      have hn0 : ((restOf t ws).toNat : Int) = restOf t ws := Int.toNat_of_nonneg hlft.1
      have hnl : (restOf t ws).toNat < ws.length := by omega
      rw [← hn0]
      generalize (restOf t ws).toNat = n at *
      have hshl : ∀ j : Nat, (shTo Q o j).length = ws.length := fun j => by rw [shTo_len, hQl]
      refine loop_rule (ι := Nat) (fun j => j ≤ n) (fun j => stOf [(8, .own 44 1 ws.length), (9, .own 47 1 ws.length), (10, .c (.i n)), (13, .c (.i j))] [(44, .row 1 ((shTo Q o j).map ienc)), (47, .row 1 (o.map nzenc))]) (fun j => n - j) 0 (by simp) (by apply le_of <;> simp [AV.refs1, AV.ref0, Obj.refs1, shTo_zero]) ?_
      rintro j hj
      rcases Nat.lt_or_ge j n with hlt | hge
      · have hjo : j < o.length := by rw [hord.len]; omega
        obtain ⟨a, ha⟩ : ∃ a, o[j]? = some a := ⟨_, List.getElem?_eq_getElem hjo⟩
        have ga := (List.getElem?_eq_some_iff.1 ha).2
        have hal := hord.lt a (List.mem_of_getElem? ha)
        have hss := shTo_succ (out := Q) ha
        have hl := hshl j
        have hbd := shTo_rng (o := o) (m := 1000000000000000) (by omega) hQr j
        generalize shTo Q o j = S at *
        obtain ⟨v, hv⟩ : ∃ v, S[a]? = some v := ⟨_, List.getElem?_eq_getElem (by omega)⟩
        have gv := (List.getElem?_eq_some_iff.1 hv).2
        have hvv := vAt_eq hv
        have hb := hbd v (List.mem_of_getElem? hv)
        have hs4 : (S.map ienc).set a [.i (v + 1)] = (shTo Q o (j + 1)).map ienc := by rw [hss, hvv, List.map_set]
        have hln : j < ws.length := by omega
        have hal2 : a < S.length := by omega
        simp -dsimp -implicitDefEqProofs [ha, ga, lt_t hlt, hlt, hjo, nzenc, hv, gv, hal, hal2, hln, hs4]
        refine ⟨by unfold inI; omega, by unfold inI; omega, j + 1, hlt, by omega, ?_⟩
        apply le_of <;> simp [AV.refs1, AV.ref0, Obj.refs1]
      · have : j = n := by omega
        subst this
        simp -dsimp -implicitDefEqProofs
        rw [List.take_of_length_le (by rw [List.length_map, hshl]; exact Nat.le_refl _)]
theorem ShareOut_len (t : Int) (ws : List Int) : (ShareOut t ws).length ≤ 12 := by
  cases h : okShare t ws with
  | false => rw [okShare_no h]; simp
  | true => rw [ShareOut_is h, shTo_len, List.length_map]; exact (shareFacts h).len.2
theorem ShareOut_implP (t : Int) (ws : List Int) : PureF Try.prog n_impl_ShareOut [.c (.i t), .c (.sl 1 (ws.map ienc))] (.c (.sl 1 ((ShareOut t ws).map ienc))) := (ShareOut_impl t ws).pure (by simp)
def tollTo (l : List Int) (t w : Int) : Nat → List Entry
  | 0 => []
  | k + 1 => tollTo l t w k ++ (if 0 < vAt l k then [⟨0, k + 1, vAt l k, t, w⟩] else [])
theorem tollTo_zero {l : List Int} {t w : Int} : tollTo l t w 0 = [] := rfl
theorem tollTo_succ {l : List Int} {t w : Int} {k : Nat} : tollTo l t w (k + 1) = tollTo l t w k ++ (if 0 < vAt l k then [⟨0, k + 1, vAt l k, t, w⟩] else []) := rfl
theorem tollTo_len {l : List Int} {t w : Int} : ∀ k : Nat, (tollTo l t w k).length ≤ k
  | 0 => by simp [tollTo]
  | k + 1 => by
    have := tollTo_len (l := l) (t := t) (w := w) k
    rw [tollTo_succ, List.length_append]
    split <;> simp <;> omega
def okToll (t : Tariff) (x : Train) (n : Int) : Bool := TariffOk t && TrainOk x && inRange n 0 1000000
def TollEntries (t : Tariff) (x : Train) (n : Int) : List Entry := if okToll t x n then tollTo (ShareOut (TollOf t x) t.Weights) n (vAt (IdsOf x) 0) (ShareOut (TollOf t x) t.Weights).length else []
theorem tollNo {t : Tariff} {x : Train} {n : Int} (h : okToll t x n = false) : TollEntries t x n = [] := by simp [TollEntries, h]
theorem ids_first {x : Train} (h : TrainOk x = true) : ∃ w, (IdsOf x)[0]? = some w := by
  have tf := trainFacts h
  have h1 := tf.pos
  refine ⟨_, List.getElem?_eq_getElem (show 0 < (IdsOf x).length by rw [IdsOf, if_pos h, List.length_map]; omega)⟩
theorem TollEntries_impl (t : Tariff) (x : Train) (n : Int) (hx : x.small) : OwnF Try.prog n_impl_TollEntries [.agg (t.enc.map .c), .agg (x.enc.map .c), .c (.i n)] (.c (.ow 5 ((TollEntries t x n).map Entry.enc))) := by
  refine own_of h_impl_TollEntries (by simp) fun hwf => ?_
  simp -dsimp -implicitDefEqProofs [c_impl_TollEntries]
  first
    | refine call_lend (TariffOk_impl t) (by simp) rfl ?_
    | refine call_pure (TariffOk_impl t) (by simp) rfl ?_
    | refine ⟨_, _, TariffOk_impl t, by simp, .inr rfl, ?_⟩
    | refine ⟨_, _, TariffOk_impl t, by simp, .inl rfl, ?_⟩
    | refine callE_pure (TariffOk_impl t) (by simp) (.inr rfl) ?_
    | refine callE_pure (TariffOk_impl t) (by simp) (.inl rfl) ?_
  cases h1 : TariffOk t with
  | false => simp -dsimp -implicitDefEqProofs; rw [tollNo (by simp [okToll, h1])]
  | true =>
  simp -dsimp -implicitDefEqProofs
  first
    | refine call_lend (TrainOk_impl x hx) (by simp) rfl ?_
    | refine call_pure (TrainOk_impl x hx) (by simp) rfl ?_
    | refine ⟨_, _, TrainOk_impl x hx, by simp, .inr rfl, ?_⟩
    | refine ⟨_, _, TrainOk_impl x hx, by simp, .inl rfl, ?_⟩
    | refine callE_pure (TrainOk_impl x hx) (by simp) (.inr rfl) ?_
    | refine callE_pure (TrainOk_impl x hx) (by simp) (.inl rfl) ?_
  cases h2 : TrainOk x with
  | false => simp -dsimp -implicitDefEqProofs; rw [tollNo (by simp [okToll, h2])]
  | true =>
  simp -dsimp -implicitDefEqProofs
  first
    | refine call_lend (inRange_impl n 0 1000000) (by simp) rfl ?_
    | refine call_pure (inRange_impl n 0 1000000) (by simp) rfl ?_
    | refine ⟨_, _, inRange_impl n 0 1000000, by simp, .inr rfl, ?_⟩
    | refine ⟨_, _, inRange_impl n 0 1000000, by simp, .inl rfl, ?_⟩
    | refine callE_pure (inRange_impl n 0 1000000) (by simp) (.inr rfl) ?_
    | refine callE_pure (inRange_impl n 0 1000000) (by simp) (.inl rfl) ?_
  cases h3 : inRange n 0 1000000 with
  | false => simp -dsimp -implicitDefEqProofs; rw [tollNo (by simp [okToll, h3])]
  | true =>
  simp -dsimp -implicitDefEqProofs
  have hok : okToll t x n = true := by simp [okToll, h1, h2, h3]
  have he : TollEntries t x n = tollTo (ShareOut (TollOf t x) t.Weights) n (vAt (IdsOf x) 0) (ShareOut (TollOf t x) t.Weights).length := by rw [TollEntries, if_pos hok]
  obtain ⟨w, hw⟩ := ids_first h2
  rw [vAt_eq hw] at he
  rw [he]
  first
    | refine call_lend (IdsOf_implP x hx) (by simp) rfl ?_
    | refine call_pure (IdsOf_implP x hx) (by simp) rfl ?_
    | refine ⟨_, _, IdsOf_implP x hx, by simp, .inr rfl, ?_⟩
    | refine ⟨_, _, IdsOf_implP x hx, by simp, .inl rfl, ?_⟩
    | refine callE_pure (IdsOf_implP x hx) (by simp) (.inr rfl) ?_
    | refine callE_pure (IdsOf_implP x hx) (by simp) (.inl rfl) ?_
  have gw := (List.getElem?_eq_some_iff.1 hw).2
  have lw := (List.getElem?_eq_some_iff.1 hw).1
  simp -dsimp -implicitDefEqProofs [hw, gw, lw]
  first
    | refine call_lend (TollOf_impl t x hx) (by simp) rfl ?_
    | refine call_pure (TollOf_impl t x hx) (by simp) rfl ?_
    | refine ⟨_, _, TollOf_impl t x hx, by simp, .inr rfl, ?_⟩
    | refine ⟨_, _, TollOf_impl t x hx, by simp, .inl rfl, ?_⟩
    | refine callE_pure (TollOf_impl t x hx) (by simp) (.inr rfl) ?_
    | refine callE_pure (TollOf_impl t x hx) (by simp) (.inl rfl) ?_
  simp -dsimp -implicitDefEqProofs
  first
    | refine call_lend (ShareOut_implP (TollOf t x) t.Weights) (by simp) rfl ?_
    | refine call_pure (ShareOut_implP (TollOf t x) t.Weights) (by simp) rfl ?_
    | refine ⟨_, _, ShareOut_implP (TollOf t x) t.Weights, by simp, .inr rfl, ?_⟩
    | refine ⟨_, _, ShareOut_implP (TollOf t x) t.Weights, by simp, .inl rfl, ?_⟩
    | refine callE_pure (ShareOut_implP (TollOf t x) t.Weights) (by simp) (.inr rfl) ?_
    | refine callE_pure (ShareOut_implP (TollOf t x) t.Weights) (by simp) (.inl rfl) ?_
  have hsl := ShareOut_len (TollOf t x) t.Weights
  generalize ShareOut (TollOf t x) t.Weights = sh at *
  simp -dsimp -implicitDefEqProofs
  intro hlen
  refine virt_rule (k0 := 5) 8 5 (by simp) (by simp) (by decide) ?_
  refine loop_rule (ι := Nat) (fun k => k ≤ sh.length) (fun k => stOf [(2, .c (.i n)), (7, .c (.i w)), (8, .own 8 5 (tollTo sh n w k).length), (33, .c (.sl 1 (sh.map ienc))), (34, .c (.i sh.length)), (35, .c (.i k))] [(8, .row 5 ((tollTo sh n w k).map Entry.enc))]) (fun k => sh.length - k) 0 (by simp) (by apply le_of <;> simp [AV.refs1, AV.ref0, Obj.refs1, tollTo_zero]) ?_
  rintro k hk
  have htl := tollTo_len (l := sh) (t := n) (w := w) k
  rcases Nat.lt_or_ge k sh.length with hlt | hge
  · obtain ⟨v, hv⟩ : ∃ v, sh[k]? = some v := ⟨_, List.getElem?_eq_getElem hlt⟩
    have gv := (List.getElem?_eq_some_iff.1 hv).2
    have hs := tollTo_succ (l := sh) (t := n) (w := w) (k := k)
    rw [vAt_eq hv] at hs
    simp -dsimp -implicitDefEqProofs [hv, gv, lt_t hlt, hlt]
    refine ⟨fun h0 => ?_, fun h0 => ?_⟩
    · rw [if_pos (by omega)] at hs
      refine ⟨by unfold inI; omega, by omega, inI_succ hlt hlen, k + 1, hlt, by omega, ?_⟩
      apply le_of <;> simp [AV.refs1, AV.ref0, Obj.refs1, hs]
    · rw [if_neg (by omega), List.append_nil] at hs
      refine ⟨inI_succ hlt hlen, k + 1, hlt, by omega, ?_⟩
      apply le_of <;> simp [AV.refs1, AV.ref0, Obj.refs1, hs]
  · have : k = sh.length := by omega
    subst this
    simp -dsimp -implicitDefEqProofs [take_full]
theorem TollEntries_len (t : Tariff) (x : Train) (n : Int) : (TollEntries t x n).length ≤ 12 := by
  unfold TollEntries
  split
  · have h1 := tollTo_len (l := ShareOut (TollOf t x) t.Weights) (t := n) (w := vAt (IdsOf x) 0) (ShareOut (TollOf t x) t.Weights).length
    have h2 := ShareOut_len (TollOf t x) t.Weights
    omega
  · simp
theorem TollEntries_implP (t : Tariff) (x : Train) (n : Int) (hx : x.small) : PureF Try.prog n_impl_TollEntries [.agg (t.enc.map .c), .agg (x.enc.map .c), .c (.i n)] (.c (.sl 5 ((TollEntries t x n).map Entry.enc))) := (TollEntries_impl t x n hx).pure (by simp)
def wgtL : List Int := [1, 2, 3, 7, 0]
def wgtTo (code : List UInt8) (p : Nat × Int) : Nat → (Nat × Int) × List Int
  | 0 => (p, [])
  | k + 1 => (pickN code wgtL (wgtTo code p k).1, (wgtTo code p k).2 ++ [pickV code wgtL (wgtTo code p k).1])
theorem wgtTo_ok {code : List UInt8} {p : Nat × Int} (h : p.1 ≤ code.length) : ∀ k : Nat, (wgtTo code p k).1.1 ≤ code.length
  | 0 => h
  | k + 1 => pickN_ok (wgtTo_ok h k)
theorem wgtTo_len {code : List UInt8} {p : Nat × Int} : ∀ k : Nat, (wgtTo code p k).2.length = k
  | 0 => rfl
  | k + 1 => by simp [wgtTo, wgtTo_len (code := code) (p := p) k]
theorem wgtTo_rng {code : List UInt8} {p : Nat × Int} : ∀ k : Nat, ∀ w ∈ (wgtTo code p k).2, 0 ≤ w ∧ w ≤ 7
  | 0, w, h => by simp [wgtTo] at h
  | k + 1, w, h => by
    simp only [wgtTo] at h
    rcases List.mem_append.1 h with h | h
    · exact wgtTo_rng k w h
    · rw [List.mem_singleton] at h
      have h1 := pickV_mem (code := code) (l := wgtL) (p := (wgtTo code p k).1) (by simp [wgtL])
      rw [← h] at h1
      revert h1
      generalize w = v
      intro h1
      simp [wgtL] at h1; omega
def tarP1 (code : List UInt8) (p : Nat × Int) : Nat × Int := belowN code 50 p
def tarP2 (code : List UInt8) (p : Nat × Int) : Nat × Int := belowN code 20 (tarP1 code p)
def tarP3 (code : List UInt8) (p : Nat × Int) : Nat × Int := belowN code 9 (tarP2 code p)
def tarP4 (code : List UInt8) (p : Nat × Int) : Nat × Int := belowN code 30 (tarP3 code p)
def tarK (code : List UInt8) (p : Nat × Int) : Nat := (1 + belowV code 4 (tarP4 code p)).toNat
def tarN (code : List UInt8) (p : Nat × Int) : Nat × Int := (wgtTo code (belowN code 4 (tarP4 code p)) (tarK code p)).1
def firstUp : List Int → List Int
  | [] => []
  | w :: l => (w + 1) :: l
def tarV (code : List UInt8) (p : Nat × Int) : Tariff :=
  ⟨belowV code 50 p, belowV code 20 (tarP1 code p), [belowV code 9 (tarP2 code p), belowV code 30 (tarP3 code p), 0], firstUp (wgtTo code (belowN code 4 (tarP4 code p)) (tarK code p)).2⟩
theorem tarK_eq (code : List UInt8) (p : Nat × Int) : (tarK code p : Int) = 1 + belowV code 4 (tarP4 code p) ∧ 1 ≤ tarK code p ∧ tarK code p ≤ 4 := by
  have h := belowV_rng (code := code) (n := 4) (p := tarP4 code p) (by omega)
  unfold tarK; omega
set_option maxRecDepth 4000 in
theorem l08Tariff_c (code : List UInt8) (p : Nat × Int) (hp : p.1 ≤ code.length) : CurF Try.prog n_spec_l08Tariff (curC code p) (curC code (tarN code p)) [] (.agg [.c (.i (tarV code p).Base), .c (.i (tarV code p).PerArea), .c (.ow 1 ((tarV code p).PerClass.map ienc)), .c (.ow 1 ((tarV code p).Weights.map ienc))]) := by
  have q1 : (tarP1 code p).1 ≤ code.length := belowN_ok hp
  have q2 : (tarP2 code p).1 ≤ code.length := belowN_ok q1
  have q3 : (tarP3 code p).1 ≤ code.length := belowN_ok q2
  have q4 : (tarP4 code p).1 ≤ code.length := belowN_ok q3
  have hK := tarK_eq code p
  refine cur_of h_spec_l08Tariff (by simp) fun hwf hwf2 => ?_
  simp -dsimp -implicitDefEqProofs [c_spec_l08Tariff]
  refine call_cur (l01Below_c code 50 p hp (by omega) (by omega)) (by simp ) (by simp) rfl (by simp [freshO]) ?_
  simp -dsimp -implicitDefEqProofs
  refine call_cur (l01Below_c code 20 (tarP1 code p) q1 (by omega) (by omega)) (by simp [tarP1]) (by simp) rfl (by simp [freshO]) ?_
  simp -dsimp -implicitDefEqProofs
  refine call_cur (l01Below_c code 9 (tarP2 code p) q2 (by omega) (by omega)) (by simp [tarP2]) (by simp) rfl (by simp [freshO]) ?_
  simp -dsimp -implicitDefEqProofs
  refine call_cur (l01Below_c code 30 (tarP3 code p) q3 (by omega) (by omega)) (by simp [tarP3]) (by simp) rfl (by simp [freshO]) ?_
  simp -dsimp -implicitDefEqProofs
  refine call_cur (l01Below_c code 4 (tarP4 code p) q4 (by omega) (by omega)) (by simp [tarP4]) (by simp) rfl (by simp [freshO]) ?_
  simp -dsimp -implicitDefEqProofs
  have h4 := belowV_rng (code := code) (n := 4) (p := tarP4 code p) (by omega)
  refine ⟨by unfold inI; omega, ?_⟩
  rw [← hK.1]
  have q5 : (belowN code 4 (tarP4 code p)).1 ≤ code.length := belowN_ok q4
  have eN : tarN code p = (wgtTo code (belowN code 4 (tarP4 code p)) (tarK code p)).1 := rfl
  have eW : (tarV code p).Weights = firstUp (wgtTo code (belowN code 4 (tarP4 code p)) (tarK code p)).2 := rfl
  have eB : (tarV code p).Base = belowV code 50 p := rfl
  have eA : (tarV code p).PerArea = belowV code 20 (tarP1 code p) := rfl
  have eC : (tarV code p).PerClass = [belowV code 9 (tarP2 code p), belowV code 30 (tarP3 code p), 0] := rfl
  rw [eN, eW, eB, eA, eC]
  generalize tarK code p = n at *
  generalize belowN code 4 (tarP4 code p) = q0 at *
  generalize belowV code 50 p = vb at *
  generalize belowV code 20 (tarP1 code p) = va at *
  generalize belowV code 9 (tarP2 code p) = c0 at *
  generalize belowV code 30 (tarP3 code p) = c1 at *
  refine loop_rule (ι := Nat) (fun k => k ≤ n) (fun k => if k = 0 then stOf [(0, .box 0 0), (1000000, .box 0 0), (2, .box 2 0), (3, .box 3 0), (4, .c (.i n))] [(0, .box ((curC code q0).map .c)), (2, .box [.c (.i 0), .c (.i 0), .nil 1, .nil 1]), (3, .box [.c (.i vb), .c (.i va), .own 13 1 3, .nil 1]), (13, .row 1 [[.i c0], [.i c1], [.i 0]])]
    else stOf [(0, .box 0 0), (1000000, .box 0 0), (2, .box 2 0), (3, .box 3 0), (4, .c (.i (n - k)))] [(0, .box ((curC code (wgtTo code q0 k).1).map .c)), (2, .box [.c (.i 0), .c (.i 0), .nil 1, .nil 1]), (3, .box [.c (.i vb), .c (.i va), .own 13 1 3, .own 28 1 k]), (13, .row 1 [[.i c0], [.i c1], [.i 0]]), (28, .row 1 ((wgtTo code q0 k).2.map ienc))]) (fun k => n - k) 0 (by simp) (by rw [if_pos rfl]; apply le_of <;> simp [AV.refs1, AV.ref0, Obj.refs1]) ?_
  rintro k hk
  have e4 : wgtL.map ienc = [[.i 1], [.i 2], [.i 3], [.i 7], [.i 0]] := rfl
  rcases Nat.eq_zero_or_pos k with e | hk0
  · subst e
    rw [if_pos rfl]
    have hn0 : ((0 : Int) < (n : Int)) = True := by simp; omega
    have hn0' : (0 < n) = True := by simp; omega
    have hpk := l01PickInt_g code wgtL q0 q5 (by simp [wgtL]) (by simp [wgtL])
    have hs1 : wgtTo code q0 1 = (pickN code wgtL q0, [pickV code wgtL q0]) := by simp [wgtTo]
    simp -dsimp -implicitDefEqProofs [hn0, hn0']
    have hg : CurG Try.prog n_spec_l01PickInt (curC code q0) (curC code (pickN code wgtL q0)) 1 ([[C.i 1], [C.i 2], [C.i 3], [C.i 7], [C.i 0]].take 5) (.c (.i (pickV code wgtL q0))) := hpk
    refine turn_curG (id := 0) (id1 := 25) hg (by simp) (by simp) (by simp) (by simp) rfl ?_
    simp -dsimp -implicitDefEqProofs
    refine ⟨by unfold inI; omega, 1, by omega, by omega, ?_⟩
    rw [if_neg (by omega)]
    apply le_of <;> simp [AV.refs1, AV.ref0, Obj.refs1, hs1, ienc]
  · have hne : (k = 0) = False := by simp; omega
    simp only [hne, if_false]
    have hq := wgtTo_ok (p := q0) q5 k
    have hln := wgtTo_len (code := code) (p := q0) k
    have hsuc : wgtTo code q0 (k + 1) = (pickN code wgtL (wgtTo code q0 k).1, (wgtTo code q0 k).2 ++ [pickV code wgtL (wgtTo code q0 k).1]) := rfl
    rcases Nat.lt_or_ge k n with hlt | hge
    · have hgt : (0 < (n : Int) - (k : Int)) = True := by simp; omega
      generalize wgtTo code q0 k = Q at *
      obtain ⟨q, ws⟩ := Q
      simp only at hq hln hsuc ⊢
      have hpk := l01PickInt_g code wgtL q hq (by simp [wgtL]) (by simp [wgtL])
      have hg : CurG Try.prog n_spec_l01PickInt (curC code q) (curC code (pickN code wgtL q)) 1 ([[C.i 1], [C.i 2], [C.i 3], [C.i 7], [C.i 0]].take 5) (.c (.i (pickV code wgtL q))) := hpk
      simp -dsimp -implicitDefEqProofs [hgt]
      refine ⟨fun _ => ?_, fun h => by omega⟩
      refine turn_curG (id := 0) (id1 := 25) hg (by simp) (by simp) (by simp) (by simp) rfl ?_
      simp -dsimp -implicitDefEqProofs [hln]
      refine ⟨by omega, by unfold inI; omega, k + 1, hlt, by omega, ?_⟩
      rw [if_neg (by omega)]
      apply le_of <;> simp [AV.refs1, AV.ref0, Obj.refs1, hsuc, ienc]
      try omega
    · have hgt : (0 < (n : Int) - (k : Int)) = False := by simp; omega
      have : k = n := by omega
      subst this
      obtain ⟨w0, wl, hws⟩ : ∃ w0 wl, (wgtTo code q0 k).2 = w0 :: wl := by
        cases h : (wgtTo code q0 k).2 with
        | nil => exfalso; rw [h] at hln; simp only [List.length_nil] at hln; omega
        | cons a l => exact ⟨a, l, rfl⟩
      have hw7 := wgtTo_rng (code := code) (p := q0) k w0 (by rw [hws]; simp)
      rw [hws]
      simp -dsimp -implicitDefEqProofs [hgt, firstUp]
      rw [hws] at hln
      refine ⟨hk0, by unfold inI; omega, hk0, ?_⟩
      rw [List.take_of_length_le (by simpa using Nat.le_of_eq hln)]
def drawnTariff (code : List UInt8) : Tariff := tarV code (0, hash code)
theorem DrawTariff_o (code : List UInt8) (hl : code.length ≤ 1048576) : OwnF Try.prog n_spec_DrawTariff [.c (.sl 1 (code.map uenc))] (.agg [.c (.i (drawnTariff code).Base), .c (.i (drawnTariff code).PerArea), .c (.ow 1 ((drawnTariff code).PerClass.map ienc)), .c (.ow 1 ((drawnTariff code).Weights.map ienc))]) := by
  refine own_of h_spec_DrawTariff (by simp) fun hwf => ?_
  have hpl : (∀ x, x ∈ curC code (0, hash code) → x.plain = true) = True := by simp [curC, C.plain]
  simp -dsimp -implicitDefEqProofs [c_spec_DrawTariff]
  refine call_ownD (l01New_o code hl) (by simp) rfl (by simp [freshO, hpl]) ?_
  simp -dsimp -implicitDefEqProofs [hpl]
  refine call_cur (l08Tariff_c code (0, hash code) (by simp)) (by simp [hpl]) (by simp) rfl (by simp [freshO, hpl]) ?_
  simp -dsimp -implicitDefEqProofs [hpl]
  simp [drawnTariff, take_full]
theorem DrawTariff_p (code : List UInt8) (hl : code.length ≤ 1048576) : PureF Try.prog n_spec_DrawTariff [.c (.sl 1 (code.map uenc))] (.agg ((drawnTariff code).enc.map .c)) := (DrawTariff_o code hl).pure (by simp [AV.shr, AV.shr1, shrl])
theorem drawnTariff_ok (code : List UInt8) : TariffOk (drawnTariff code) = true ∧ (drawnTariff code).small ∧ (drawnTariff code).Weights.length ≤ 4 := by
  have hK := tarK_eq code (0, hash code)
  have h1 := belowV_rng (code := code) (n := 50) (p := (0, hash code)) (by omega)
  have h2 := belowV_rng (code := code) (n := 20) (p := tarP1 code (0, hash code)) (by omega)
  have h3 := belowV_rng (code := code) (n := 9) (p := tarP2 code (0, hash code)) (by omega)
  have h4 := belowV_rng (code := code) (n := 30) (p := tarP3 code (0, hash code)) (by omega)
  have hl := wgtTo_len (code := code) (p := belowN code 4 (tarP4 code (0, hash code))) (tarK code (0, hash code))
  have hr := wgtTo_rng (code := code) (p := belowN code 4 (tarP4 code (0, hash code))) (tarK code (0, hash code))
  have hw : ∃ w0 wl, (drawnTariff code).Weights = w0 :: wl ∧ (∀ w ∈ w0 :: wl, 0 ≤ w ∧ w ≤ 8) ∧ 1 ≤ w0 ∧ wl.length ≤ 3 := by
    show ∃ w0 wl, firstUp (wgtTo code (belowN code 4 (tarP4 code (0, hash code))) (tarK code (0, hash code))).2 = w0 :: wl ∧ _
    generalize (wgtTo code (belowN code 4 (tarP4 code (0, hash code))) (tarK code (0, hash code))).2 = l at *
    cases l with
    | nil => simp at hl; omega
    | cons a l =>
      refine ⟨a + 1, l, rfl, fun w hw => ?_, by have := hr a (by simp); omega, by simp at hl; omega⟩
      rcases List.mem_cons.1 hw with e | e
      · have := hr a (by simp); omega
      · have := hr w (by simp [e]); omega
  obtain ⟨w0, wl, e, hw, hw0, hwl⟩ := hw
  have hsum : 0 ≤ wl.sum := by
    have := sum_bnd (l := wl) (m := 8) fun x hx => hw x (by simp [hx])
    omega
  have ec : (drawnTariff code).PerClass = [belowV code 9 (tarP2 code (0, hash code)), belowV code 30 (tarP3 code (0, hash code)), 0] := rfl
  refine ⟨?_, ⟨?_, ?_⟩, ?_⟩
  · have a1 : inRange (drawnTariff code).Base 0 10000 = true := inRange_iff.2 ⟨h1.1, by have := h1.2; show belowV code 50 (0, hash code) ≤ _; omega⟩
    have a2 : inRange (drawnTariff code).PerArea 0 100 = true := inRange_iff.2 ⟨h2.1, by have := h2.2; show belowV code 20 (tarP1 code (0, hash code)) ≤ _; omega⟩
    have a3 : (drawnTariff code).PerClass.all (fun n => inRange n 0 10000) = true := by
      rw [ec, List.all_eq_true]
      intro x hx
      simp only [List.mem_cons, List.not_mem_nil, or_false] at hx
      rcases hx with rfl | rfl | rfl
      · exact inRange_iff.2 ⟨h3.1, by omega⟩
      · exact inRange_iff.2 ⟨h4.1, by omega⟩
      · decide
    have a4 : (drawnTariff code).Weights.all (fun n => inRange n 0 1000) = true := by
      rw [e, List.all_eq_true]
      exact fun x hx => inRange_iff.2 ⟨(hw x hx).1, by have := (hw x hx).2; omega⟩
    have a5 : inRange (drawnTariff code).Weights.length 1 11 = true := by rw [e, List.length_cons]; exact inRange_iff.2 ⟨by omega, by omega⟩
    have a6 : (drawnTariff code).PerClass.length = 3 := by rw [ec]; rfl
    have a7 : 0 < (drawnTariff code).Weights.sum := by rw [e, List.sum_cons]; omega
    simp only [TariffOk, a1, a2, a3, a4, a5, a6, a7, decide_true, Bool.and_self]
  · rw [ec]; simp
  · rw [e]; simp; omega
  · rw [e]; simp; omega
theorem Grow_o (m : Int) (h0 : 0 ≤ m) (h1 : m ≤ 2097152) : OwnF Try.prog n_slices_Grow___impl_Entry_impl_Entry_ [.nil 5, .c (.i m)] (.c (.ow 5 [])) := by
  refine own_of h_slices_Grow___impl_Entry_impl_Entry_ (by simp) fun hwf => ?_
  simp -dsimp -implicitDefEqProofs [c_slices_Grow___impl_Entry_impl_Entry_]
  exact ⟨h0, fun _ => ⟨by unfold inI; omega, by unfold inI; omega, fun h => ⟨h0, by omega, by omega⟩⟩⟩
theorem CloneEn_o (es : List Entry) (hl : es.length ≤ 2097152) : OwnF Try.prog n_slices_Clone___impl_Entry_impl_Entry_ [.c (.sl 5 (es.map Entry.enc))] (.c (.ow 5 (es.map Entry.enc))) := by
  refine own_of h_slices_Clone___impl_Entry_impl_Entry_ (by simp) fun hwf => ?_
  simp -dsimp -implicitDefEqProofs [c_slices_Clone___impl_Entry_impl_Entry_, take_full]
  omega
def lens (a b : Nat) (k : Nat) : Int := if k = 0 then 0 else if k = 1 then a else a + b
def catTo (a b : List Entry) (k : Nat) : List Entry := if k = 0 then [] else if k = 1 then a else a ++ b
theorem ConcatEn_o (a b : List Entry) (ha : a.length ≤ 1048576) (hb : b.length ≤ 1048576) :
    OwnF Try.prog n_slices_Concat___impl_Entry_impl_Entry_ [.c (.sl 1 [[.sl 5 (a.map Entry.enc)], [.sl 5 (b.map Entry.enc)]])] (.c (.ow 5 ((a ++ b).map Entry.enc))) := by
  refine own_of h_slices_Concat___impl_Entry_impl_Entry_ (by simp) fun hwf => ?_
  simp -dsimp -implicitDefEqProofs [c_slices_Concat___impl_Entry_impl_Entry_]
  refine fun _ => loop_rule (ι := Nat) (fun k => k ≤ 2) (fun k => stOf [(0, .c (.sl 1 [[.sl 5 (a.map Entry.enc)], [.sl 5 (b.map Entry.enc)]])), (3, .c (.i (lens a.length b.length k))), (9, .c (.sl 1 [[.sl 5 (a.map Entry.enc)], [.sl 5 (b.map Entry.enc)]])), (10, .c (.i 2)), (11, .c (.i k))] []) (fun k => 2 - k) 0 (by simp) (by apply le_of <;> simp [AV.refs1, AV.ref0, Obj.refs1, lens]) ?_
  intro k hk
  obtain rfl | rfl | rfl : k = 0 ∨ k = 1 ∨ k = 2 := by omega
  · simp -dsimp -implicitDefEqProofs [lens]
    refine fun _ => ⟨by unfold inI; omega, by unfold inI; omega, 1, by omega, by omega, ?_⟩
    apply le_of <;> simp [AV.refs1, AV.ref0, Obj.refs1]
  · simp -dsimp -implicitDefEqProofs [lens]
    refine fun _ => ⟨by unfold inI; omega, by omega, fun _ => ⟨by unfold inI; omega, 2, by omega, by omega, ?_⟩⟩
    apply le_of <;> simp [AV.refs1, AV.ref0, Obj.refs1]
  · simp -dsimp -implicitDefEqProofs [lens]
    first
      | refine call_own (Grow_o (a.length + b.length) (by omega) (by omega)) (by simp ) (by simp [AV.closed, AV.closed1, C.closed]) (by simp [freshO]) ?_
      | refine callE_own (Grow_o (a.length + b.length) (by omega) (by omega)) (by simp ) (by simp [AV.closed, AV.closed1, C.closed]) (by simp [freshO]) ?_
    simp -dsimp -implicitDefEqProofs
    refine fun _ => loop_rule (ι := Nat) (fun k => k ≤ 2) (fun k => stOf [(6, .own 24 5 (catTo a b k).length), (25, .c (.sl 1 [[.sl 5 (a.map Entry.enc)], [.sl 5 (b.map Entry.enc)]])), (26, .c (.i 2)), (27, .c (.i k))] [(24, .row 5 ((catTo a b k).map Entry.enc))]) (fun k => 2 - k) 0 (by simp) (by apply le_of <;> simp [AV.refs1, AV.ref0, Obj.refs1, catTo]) ?_
    intro k hk
    obtain rfl | rfl | rfl : k = 0 ∨ k = 1 ∨ k = 2 := by omega
    · simp -dsimp -implicitDefEqProofs [catTo]
      refine ⟨by omega, by unfold inI; omega, 1, by omega, by omega, ?_⟩
      apply le_of <;> simp [AV.refs1, AV.ref0, Obj.refs1]
    · simp -dsimp -implicitDefEqProofs [catTo]
      refine ⟨by omega, by unfold inI; omega, 2, by omega, by omega, ?_⟩
      apply le_of <;> simp [AV.refs1, AV.ref0, Obj.refs1]
    · simp -dsimp -implicitDefEqProofs [catTo]
      rw [List.take_of_length_le (by simp)]
def PostEntries (book more : List Entry) : List Entry × Bool := if BookOk book && BookOk (book ++ more) then (book ++ more, true) else (book, false)
theorem PostEntries_impl (a b : List Entry) (ha : a.length ≤ 1048576) (hb : b.length ≤ 1048576) :
    OwnF Try.prog n_impl_PostEntries [.c (.sl 5 (a.map Entry.enc)), .c (.sl 5 (b.map Entry.enc))] (.tup [.c (.ow 5 ((PostEntries a b).1.map Entry.enc)), .c (.b (PostEntries a b).2)]) := by
  have hcat := ConcatEn_o a b ha hb
  have hp : PostEntries a b = if BookOk a && BookOk (a ++ b) then (a ++ b, true) else (a, false) := rfl
  have hn : 2000 < b.length → BookOk (a ++ b) = false := fun h => by simp [BookOk]; omega
  generalize a ++ b = c at hcat hp hn
  refine own_of h_impl_PostEntries (by simp) fun hwf => ?_
  simp -dsimp -implicitDefEqProofs [c_impl_PostEntries]
  first
    | refine call_lend (BookOk_impl a) (by simp) rfl ?_
    | refine call_pure (BookOk_impl a) (by simp) rfl ?_
    | refine ⟨_, _, BookOk_impl a, by simp, .inr rfl, ?_⟩
    | refine ⟨_, _, BookOk_impl a, by simp, .inl rfl, ?_⟩
    | refine callE_pure (BookOk_impl a) (by simp) (.inr rfl) ?_
    | refine callE_pure (BookOk_impl a) (by simp) (.inl rfl) ?_
  cases h : BookOk a with
  | false =>
    simp -dsimp -implicitDefEqProofs
    first
      | refine call_own (CloneEn_o a (by omega)) (by simp ) (by simp [AV.closed, AV.closed1, C.closed]) (by simp [freshO]) ?_
      | refine callE_own (CloneEn_o a (by omega)) (by simp ) (by simp [AV.closed, AV.closed1, C.closed]) (by simp [freshO]) ?_
    simp -dsimp -implicitDefEqProofs
    simp [hp, h, take_full]
  | true =>
    simp -dsimp -implicitDefEqProofs
    refine fun _ => ⟨fun h2 => ?_, fun h2 => ?_⟩
    · skip
      first
        | refine call_own (hcat) (by simp ) (by simp [AV.closed, AV.closed1, C.closed]) (by simp [freshO]) ?_
        | refine callE_own (hcat) (by simp ) (by simp [AV.closed, AV.closed1, C.closed]) (by simp [freshO]) ?_
      simp -dsimp -implicitDefEqProofs
      first
        | refine call_lend (BookOk_impl c) (by simp [take_full]) rfl ?_
        | refine call_pure (BookOk_impl c) (by simp [take_full]) rfl ?_
        | refine ⟨_, _, BookOk_impl c, by simp [take_full], .inr rfl, ?_⟩
        | refine ⟨_, _, BookOk_impl c, by simp [take_full], .inl rfl, ?_⟩
        | refine callE_pure (BookOk_impl c) (by simp [take_full]) (.inr rfl) ?_
        | refine callE_pure (BookOk_impl c) (by simp [take_full]) (.inl rfl) ?_
      cases h3 : BookOk c with
      | false =>
        simp -dsimp -implicitDefEqProofs
        first
          | refine call_own (CloneEn_o a (by omega)) (by simp ) (by simp [AV.closed, AV.closed1, C.closed]) (by simp [freshO]) ?_
          | refine callE_own (CloneEn_o a (by omega)) (by simp ) (by simp [AV.closed, AV.closed1, C.closed]) (by simp [freshO]) ?_
        simp -dsimp -implicitDefEqProofs
        simp [hp, h, h3, take_full]
      | true =>
        simp -dsimp -implicitDefEqProofs
        first
          | refine call_own (hcat) (by simp ) (by simp [AV.closed, AV.closed1, C.closed]) (by simp [freshO]) ?_
          | refine callE_own (hcat) (by simp ) (by simp [AV.closed, AV.closed1, C.closed]) (by simp [freshO]) ?_
        simp -dsimp -implicitDefEqProofs
        simp [hp, h, h3, take_full]
    · skip
      have h3 := hn (by omega)
      first
        | refine call_own (CloneEn_o a (by omega)) (by simp ) (by simp [AV.closed, AV.closed1, C.closed]) (by simp [freshO]) ?_
        | refine callE_own (CloneEn_o a (by omega)) (by simp ) (by simp [AV.closed, AV.closed1, C.closed]) (by simp [freshO]) ?_
      simp -dsimp -implicitDefEqProofs
      simp [hp, h, h3, take_full]
theorem PostEntries_implP (a b : List Entry) (ha : a.length ≤ 1048576) (hb : b.length ≤ 1048576) :
    PureF Try.prog n_impl_PostEntries [.c (.sl 5 (a.map Entry.enc)), .c (.sl 5 (b.map Entry.enc))] (.tup [.c (.sl 5 ((PostEntries a b).1.map Entry.enc)), .c (.b (PostEntries a b).2)]) := (PostEntries_impl a b ha hb).pure (by simp [AV.shr, AV.shr2, AV.shr1, C.shr])
theorem sum_set {l : List Int} {i : Nat} {x y : Int} (h : l[i]? = some x) : (l.set i y).sum = l.sum - x + y := by
  induction l generalizing i with
  | nil => simp at h
  | cons a l ih =>
    cases i with
    | zero => simp at h; subst h; simp only [List.set_cons_zero, List.sum_cons]; omega
    | succ i => simp only [List.set_cons_succ, List.sum_cons, ih (i := i) (by simpa using h)]; omega
def nz (l : List Int) : Nat := l.countP fun x => decide (x ≠ 0)
/-- What holds of the balances while debts are settled. -/
structure Bal (l : List Int) : Prop where
  len : l.length ≤ 12
  sum : l.sum = 0
  rng : ∀ x ∈ l, -1000000000 ≤ x ∧ x ≤ 1000000000
def sAmt (l : List Int) : Int := if -(vAt l (aminTo l l.length)) < vAt l (amaxTo l l.length) then -(vAt l (aminTo l l.length)) else vAt l (amaxTo l l.length)
def sEntry (l : List Int) (t : Int) : Entry := ⟨amaxTo l l.length, aminTo l l.length, sAmt l, t, 0⟩
def sStop (l : List Int) : Bool := decide (l.length = 0) || decide (vAt l (amaxTo l l.length) = 0)
def settleF : Nat → List Int → Int → List Entry
  | 0, _, _ => []
  | n + 1, l, t => if sStop l then [] else sEntry l t :: settleF n (post l (sEntry l t)) t
theorem nz_le (l : List Int) : nz l ≤ l.length := List.countP_le_length
def okBal (b : List Int) (t : Int) : Bool := decide (b.length ≤ 12) && inRange t 0 1000000 && b.all (fun n => inRange n (-1000000000) 1000000000) && decide (b.sum = 0)
def SettleUp (b : List Int) (t : Int) : List Entry := if okBal b t then settleF b.length b t else []
/-- How far the debts are settled. -/
structure Midway (b : List Int) (t : Int) (n : Nat) (l : List Int) (out : List Entry) : Prop where
  bal : Bal l
  len : l.length = b.length
  fuel : nz l ≤ n
  all : out ++ settleF n l t = SettleUp b t
  few : out.length + n ≤ 12
theorem Midway.first {b : List Int} {t : Int} (h : okBal b t = true) : Midway b t b.length b [] := by
  have h' := h
  simp only [okBal, Bool.and_eq_true, decide_eq_true_eq, List.all_eq_true] at h'
  obtain ⟨⟨⟨h1, h2⟩, h3⟩, h4⟩ := h'
  exact ⟨⟨h1, h4, fun x hx => inRange_iff.1 (h3 x hx)⟩, rfl, nz_le b, by simp [SettleUp, h], by simpa using h1⟩
theorem bAdd_sum {b : List Int} {i d v : Int} (h : b[i.toNat]? = some v) : (bAdd b i d).sum = b.sum + d := by
  unfold bAdd; rw [sum_set h, h]; simp only [Option.getD_some]; omega
theorem post_sum {b : List Int} {e : Entry} (hb : b.length = 12) (he : EntryOk e = true) : (post b e).sum = b.sum := by
  have f := entryFacts he
  have f1 := f.from_; have f2 := f.to_
  obtain ⟨v, hv⟩ : ∃ v, b[e.From.toNat]? = some v := ⟨_, List.getElem?_eq_getElem (by omega)⟩
  obtain ⟨u, hu⟩ : ∃ v, (bAdd b e.From (-e.Amount))[e.To.toNat]? = some v := ⟨_, List.getElem?_eq_getElem (by rw [bAdd_len]; omega)⟩
  unfold post
  rw [bAdd_sum hu, bAdd_sum hv]; omega
theorem balTo_sum {es : List Entry} (h : ∀ e ∈ es, EntryOk e = true) : ∀ k : Nat, (balTo es k).sum = 0
  | 0 => by rw [balTo_zero]; rfl
  | k + 1 => by
    have ih := balTo_sum h k
    cases hk : es[k]? with
    | none =>
      have hl : es.length ≤ k := by simpa using hk
      rw [balTo_all (by omega), ← balTo_all hl]; exact ih
    | some e => rw [balTo_succ hk, post_sum (balTo_len k) (h e (List.mem_of_getElem? hk)), ih]
theorem vSet_sum {l : List Int} {i : Nat} (h : i < l.length) : (l.set i (vAt l i + 1)).sum = l.sum + 1 := by
  have hv : l[i]? = some l[i] := List.getElem?_eq_getElem h
  rw [sum_set hv, vAt_eq hv]; omega
theorem shTo_sum {out : List Int} {o : List Nat} (ho : ∀ x ∈ o, x < out.length) : ∀ j : Nat, j ≤ o.length → (shTo out o j).sum = out.sum + j
  | 0, _ => by rw [shTo_zero]; simp
  | j + 1, h => by
    obtain ⟨x, hx⟩ : ∃ x, o[j]? = some x := ⟨_, List.getElem?_eq_getElem (by omega)⟩
    have ih := shTo_sum ho j (by omega)
    rw [shTo_succ hx, vSet_sum (by rw [shTo_len]; exact ho x (List.mem_of_getElem? hx)), ih]; omega
theorem shTo_nonneg {out : List Int} {o : List Nat} (h0 : ∀ x ∈ out, 0 ≤ x) : ∀ j : Nat, ∀ x ∈ shTo out o j, 0 ≤ x
  | 0, x, hx => h0 x hx
  | j + 1, x, hx => by
    cases h : o[j]? with
    | none =>
      have hl : o.length ≤ j := by simpa using h
      have e : shTo out o (j + 1) = shTo out o j := by unfold shTo; rw [List.take_of_length_le (by omega), List.take_of_length_le hl]
      rw [e] at hx
      exact shTo_nonneg h0 j x hx
    | some y =>
      rw [shTo_succ h] at hx
      rcases List.mem_or_eq_of_mem_set hx with hx | hx
      · exact shTo_nonneg h0 j x hx
      · have : 0 ≤ vAt (shTo out o j) y := by
          unfold vAt
          cases hy : (shTo out o j)[y]? with
          | none => simp
          | some v => exact shTo_nonneg h0 j v (List.mem_of_getElem? hy)
        omega
theorem ShareOut_sum {t : Int} {ws : List Int} (h : okShare t ws = true) : (ShareOut t ws).sum = t ∧ (∀ x ∈ ShareOut t ws, 0 ≤ x) ∧ (ShareOut t ws).length = ws.length := by
  have f := shareFacts h
  have hl := left_rng f
  have of_ := ordFacts (ws.map (remn t ws.sum)) ws.length
  have hq : ∀ x ∈ ws.map (quota t ws.sum), 0 ≤ x := fun x hx => by
    obtain ⟨w, hw, rfl⟩ := List.mem_map.1 hx
    exact (quota_rng f.tot f.sum.1 (f.rng w hw)).1
  rw [ShareOut_is h]
  refine ⟨?_, shTo_nonneg hq _, by rw [shTo_len, List.length_map]⟩
  rw [shTo_sum (fun x hx => by rw [List.length_map]; exact of_.lt x hx) _ (by rw [of_.len]; omega)]
  have : ((restOf t ws).toNat : Int) = restOf t ws := Int.toNat_of_nonneg hl.1
  rw [this]; unfold restOf; omega
theorem tollTo_mem {l : List Int} {t w : Int} : ∀ (k : Nat) (e : Entry), e ∈ tollTo l t w k → e.From = 0 ∧ 1 ≤ e.To ∧ e.To ≤ k ∧ 0 < e.Amount ∧ e.Amount ∈ l ∧ e.Time = t ∧ e.Why = w
  | 0, e, h => by simp [tollTo] at h
  | k + 1, e, h => by
    rw [tollTo_succ] at h
    rcases List.mem_append.1 h with h | h
    · obtain ⟨a1, a2, a3, a4, a5, a6⟩ := tollTo_mem k e h
      exact ⟨a1, a2, by omega, a4, a5, a6⟩
    · split at h
      · rename_i hp
        rw [List.mem_singleton] at h
        subst h
        refine ⟨rfl, by simp only; omega, by simp only; omega, hp, ?_, rfl, rfl⟩
        show vAt l k ∈ l
        unfold vAt at hp ⊢
        cases hk : l[k]? with
        | none => rw [hk] at hp; simp at hp
        | some v => exact List.mem_of_getElem? hk
      · cases h
theorem tollTo_pw {l : List Int} {t w : Int} : ∀ k : Nat, (tollTo l t w k).Pairwise (fun a b => a.To < b.To)
  | 0 => by simp [tollTo]
  | k + 1 => by
    rw [tollTo_succ, List.pairwise_append]
    refine ⟨tollTo_pw k, by split <;> simp, fun a ha b hb => ?_⟩
    split at hb
    · rw [List.mem_singleton] at hb
      subst hb
      have := (tollTo_mem k a ha).2.2.1
      simp only; omega
    · cases hb
def amounts (L : List Entry) : Int := (L.map fun e => e.Amount).sum
theorem amounts_app {a b : List Entry} : amounts (a ++ b) = amounts a + amounts b := by simp [amounts]
theorem tollTo_sum {l : List Int} {t w : Int} (h0 : ∀ x ∈ l, 0 ≤ x) : ∀ k : Nat, k ≤ l.length → amounts (tollTo l t w k) = (l.take k).sum
  | 0, _ => by simp [tollTo, amounts]
  | k + 1, h => by
    have hk : l[k]? = some (l[k]'(by omega)) := List.getElem?_eq_getElem (by omega)
    have hv := h0 _ (List.mem_of_getElem? hk)
    rw [tollTo_succ, amounts_app, tollTo_sum h0 k (by omega), List.take_succ, hk, vAt_eq hk]
    simp only [Option.toList_some, List.sum_append]
    split
    · simp [amounts]
    · simp [amounts]; omega
theorem mem_le_sum {l : List Int} (h0 : ∀ x ∈ l, 0 ≤ x) {x : Int} (hx : x ∈ l) : x ≤ l.sum := by
  induction l with
  | nil => cases hx
  | cons a l ih =>
    have h1 := h0 a (by simp)
    have h2 : 0 ≤ l.sum := by
      have : ∀ {m : List Int}, (∀ x ∈ m, 0 ≤ x) → 0 ≤ m.sum := by
        intro m
        induction m with
        | nil => intro _; simp
        | cons b m ihm => intro h; have := ihm (fun y hy => h y (by simp [hy])); have := h b (by simp); simp only [List.sum_cons]; omega
      exact this fun y hy => h0 y (by simp [hy])
    rw [List.sum_cons]
    rcases List.mem_cons.1 hx with e | e
    · omega
    · have := ih (fun y hy => h0 y (by simp [hy])) e; omega
structure TollFacts (t : Tariff) (x : Train) (n : Int) (L : List Entry) : Prop where
  mem : ∀ e ∈ L, e.From = 0 ∧ 1 ≤ e.To ∧ e.To ≤ t.Weights.length ∧ e.Why = vAt (IdsOf x) 0 ∧ EntryOk e = true ∧ 0 < e.Amount ∧ e.Amount ≤ 1000000
  pw : L.Pairwise (fun a b => a.To < b.To)
  sum : amounts L = TollOf t x
  len : L.length ≤ 12
theorem tollFacts {t : Tariff} {x : Train} {n : Int} (ht : TariffOk t = true) (hx : TrainOk x = true) (hn : inRange n 0 1000000 = true) : TollFacts t x n (TollEntries t x n) := by
  have hok : okToll t x n = true := by simp [okToll, ht, hx, hn]
  have hT := TollOf_in t x
  have htf := ht
  simp only [TariffOk, Bool.and_eq_true, decide_eq_true_eq, List.all_eq_true] at htf
  obtain ⟨⟨⟨⟨⟨⟨t1, t2⟩, t3⟩, t4⟩, t5⟩, t6⟩, t7⟩ := htf
  have t4' := inRange_iff.1 t4
  have hs : okShare (TollOf t x) t.Weights = true := by
    simp only [okShare, Bool.and_eq_true, decide_eq_true_eq, List.all_eq_true]
    refine ⟨⟨⟨⟨inRange_iff.2 ⟨hT.1, by omega⟩, by omega⟩, by omega⟩, fun w hw => ?_⟩, by omega⟩
    have := inRange_iff.1 (t6 w hw)
    exact inRange_iff.2 ⟨this.1, by omega⟩
  obtain ⟨s1, s2, s3⟩ := ShareOut_sum hs
  obtain ⟨w, hw⟩ := ids_first hx
  have hwr : 1 ≤ w ∧ w ≤ 9999 := by
    have hm := List.mem_of_getElem? hw
    rw [IdsOf, if_pos hx] at hm
    obtain ⟨b, hb, rfl⟩ := List.mem_map.1 hm
    exact (boatFacts ((trainFacts hx).ok b hb)).1
  have hn' := inRange_iff.1 hn
  have he : TollEntries t x n = tollTo (ShareOut (TollOf t x) t.Weights) n (vAt (IdsOf x) 0) (ShareOut (TollOf t x) t.Weights).length := by rw [TollEntries, if_pos hok]
  have hlen := TollEntries_len t x n
  rw [he] at hlen ⊢
  have e0 : vAt (IdsOf x) 0 = w := vAt_eq hw
  refine ⟨fun e hem => ?_, tollTo_pw _, ?_, hlen⟩
  · obtain ⟨a1, a2, a3, a4, a5, a6, a7⟩ := tollTo_mem _ e hem
    have hle := mem_le_sum s2 a5
    rw [s1] at hle
    have a3' : e.To ≤ t.Weights.length := by omega
    refine ⟨a1, a2, a3', a7, ?_, a4, by omega⟩
    simp only [EntryOk, Bool.and_eq_true, decide_eq_true_eq, inRange_iff]
    rw [a1, a6, a7, e0]
    omega
  · rw [tollTo_sum s2 _ (Nat.le_refl _), List.take_length, s1]
theorem bytes_of {x : List Nat} (h : (C.sl 1 (x.map nenc)).WF) : ∃ code : List UInt8, x.map nenc = code.map uenc := by
  simp only [C.WF] at h
  refine ⟨x.map fun n => UInt8.ofNat n, ?_⟩
  rw [List.map_map]
  apply List.map_congr_left
  intro n hn
  have h1 := (h.2 _ (List.mem_map_of_mem hn)).2 (.u n) (by simp [nenc])
  simp only [C.WF] at h1
  simp [nenc, uenc, Nat.mod_eq_of_lt h1]
theorem big_c (code : List UInt8) : PureF Try.prog n_laws_big [.c (.sl 1 (code.map uenc))] (.c (.b (decide (1048576 < code.length)))) := by
  refine pure_of h_laws_big (by simp) fun hwf => ?_
  simp -dsimp -implicitDefEqProofs [c_laws_big]
  intro _
  omega
theorem amounts_take {L : List Entry} {k : Nat} {e : Entry} (h : L[k]? = some e) : amounts (L.take (k + 1)) = amounts (L.take k) + e.Amount := by
  rw [List.take_succ, h, amounts_app]; simp [amounts]
theorem amounts_rng {L : List Entry} {B : Int} (h : ∀ e ∈ L, 0 ≤ e.Amount ∧ e.Amount ≤ B) : 0 ≤ amounts L ∧ amounts L ≤ B * L.length := by
  have := sum_bnd (l := L.map fun e => e.Amount) (m := B) fun x hx => by
    obtain ⟨e, he, rfl⟩ := List.mem_map.1 hx
    exact h e he
  simpa [amounts] using this
theorem sumTo_rng {l : List Int} {m : Int} (h : ∀ x ∈ l, -m ≤ x ∧ x ≤ m) (k : Nat) (hl : l.length = 12) (hm : 0 ≤ m) : -(m * 12) ≤ sumTo l k ∧ sumTo l k ≤ m * 12 := by
  have key : ∀ {a : List Int}, (∀ x ∈ a, -m ≤ x ∧ x ≤ m) → -(m * a.length) ≤ a.sum ∧ a.sum ≤ m * a.length := by
    intro a
    induction a with
    | nil => intro _; simp
    | cons b a ih =>
      intro h
      have h1 := ih fun x hx => h x (by simp [hx])
      have h2 := h b (by simp)
      simp only [List.sum_cons, List.length_cons, Int.natCast_add, Int.natCast_one, Int.mul_add, Int.mul_one]
      omega
  have h1 := key (a := l.take k) fun x hx => h x (List.mem_of_mem_take hx)
  have h2 : m * ((l.take k).length : Int) ≤ m * 12 := Int.mul_le_mul_of_nonneg_left (by rw [List.length_take]; omega) hm
  unfold sumTo
  omega
set_option maxRecDepth 16000 in
theorem FnTolls_c (x0 : List Nat) : PureF Try.prog n_laws_FnTolls [.c (.sl 1 (x0.map nenc))] (.c (.b true)) := by
  refine pure_of h_laws_FnTolls (by simp) fun hwf => ?_
  obtain ⟨code, hcode⟩ := bytes_of (x := x0) hwf.1
  rw [hcode]
  clear hwf
  simp -dsimp -implicitDefEqProofs [c_laws_FnTolls]
  first
    | refine call_lend (big_c code) (by simp) rfl ?_
    | refine call_pure (big_c code) (by simp) rfl ?_
    | refine ⟨_, _, big_c code, by simp, .inr rfl, ?_⟩
    | refine ⟨_, _, big_c code, by simp, .inl rfl, ?_⟩
    | refine callE_pure (big_c code) (by simp) (.inr rfl) ?_
    | refine callE_pure (big_c code) (by simp) (.inl rfl) ?_
  simp -dsimp -implicitDefEqProofs
  intro hl
  obtain ⟨r1, r2, r3⟩ := drawnTariff_ok code
  obtain ⟨t1, t2, t3⟩ := drawnTrain_ok code
  first
    | refine call_lend (DrawTariff_p code hl) (by simp) rfl ?_
    | refine call_pure (DrawTariff_p code hl) (by simp) rfl ?_
    | refine ⟨_, _, DrawTariff_p code hl, by simp, .inr rfl, ?_⟩
    | refine ⟨_, _, DrawTariff_p code hl, by simp, .inl rfl, ?_⟩
    | refine callE_pure (DrawTariff_p code hl) (by simp) (.inr rfl) ?_
    | refine callE_pure (DrawTariff_p code hl) (by simp) (.inl rfl) ?_
  simp -dsimp -implicitDefEqProofs
  first
    | refine call_lend (DrawTrain_p code hl) (by simp) rfl ?_
    | refine call_pure (DrawTrain_p code hl) (by simp) rfl ?_
    | refine ⟨_, _, DrawTrain_p code hl, by simp, .inr rfl, ?_⟩
    | refine ⟨_, _, DrawTrain_p code hl, by simp, .inl rfl, ?_⟩
    | refine callE_pure (DrawTrain_p code hl) (by simp) (.inr rfl) ?_
    | refine callE_pure (DrawTrain_p code hl) (by simp) (.inl rfl) ?_
  simp -dsimp -implicitDefEqProofs
  generalize drawnTariff code = t at *
  generalize drawnTrain code = x at *
  have a0 := atV_rng code 0
  first
    | refine call_lend (at_c code 0 (by omega)) (by simp) rfl ?_
    | refine call_pure (at_c code 0 (by omega)) (by simp) rfl ?_
    | refine ⟨_, _, at_c code 0 (by omega), by simp, .inr rfl, ?_⟩
    | refine ⟨_, _, at_c code 0 (by omega), by simp, .inl rfl, ?_⟩
    | refine callE_pure (at_c code 0 (by omega)) (by simp) (.inr rfl) ?_
    | refine callE_pure (at_c code 0 (by omega)) (by simp) (.inl rfl) ?_
  simp -dsimp -implicitDefEqProofs
  first
    | refine call_lend (TollEntries_implP t x (atV code 0) t2) (by simp) rfl ?_
    | refine call_pure (TollEntries_implP t x (atV code 0) t2) (by simp) rfl ?_
    | refine ⟨_, _, TollEntries_implP t x (atV code 0) t2, by simp, .inr rfl, ?_⟩
    | refine ⟨_, _, TollEntries_implP t x (atV code 0) t2, by simp, .inl rfl, ?_⟩
    | refine callE_pure (TollEntries_implP t x (atV code 0) t2) (by simp) (.inr rfl) ?_
    | refine callE_pure (TollEntries_implP t x (atV code 0) t2) (by simp) (.inl rfl) ?_
  have tf := tollFacts (t := t) (x := x) (n := atV code 0) r1 t1 (inRange_iff.2 ⟨a0.1, by omega⟩)
  generalize TollEntries t x (atV code 0) = L at *
  obtain ⟨tm, tp, ts, tl⟩ := tf
  obtain ⟨wy, hwy⟩ := ids_first t1
  have e0 : vAt (IdsOf x) 0 = wy := vAt_eq hwy
  rw [e0] at tm
  have gwy := (List.getElem?_eq_some_iff.1 hwy).2
  have lwy := (List.getElem?_eq_some_iff.1 hwy).1
  have hids := IdsOf_spec x t2
  simp -dsimp -implicitDefEqProofs
  refine loop_rule (ι := Nat) (fun k => k ≤ L.length) (fun k => stOf [(0, .c (.sl 1 (code.map uenc))), (3, .box 3 0), (4, .box 4 0), (5, .c (.sl 5 (L.map Entry.enc))), (6, .c (.i (amounts (L.take k)))), (7, .c (.i k))] [(3, .box (t.enc.map .c)), (4, .box (x.enc.map .c))]) (fun k => L.length - k) 0 (by simp) (by apply le_of <;> simp [AV.refs1, AV.ref0, Obj.refs1, amounts]) ?_
  rintro k hk
  have hrng := amounts_rng (L := L.take k) (B := 1000000) fun e he => by have := tm e (List.mem_of_mem_take he); omega
  rw [List.length_take] at hrng
  rcases Nat.lt_or_ge k L.length with hlt | hge
  · obtain ⟨e, he⟩ : ∃ e, L[k]? = some e := ⟨_, List.getElem?_eq_getElem hlt⟩
    have ge := (List.getElem?_eq_some_iff.1 he).2
    have hat := amounts_take he
    obtain ⟨m1, m2, m3, m4, m5, m6, m7⟩ := tm e (List.mem_of_getElem? he)
    have hE := EntryOk_impl e
    rw [m5] at hE
    have n1 : (e.To < 1) = False := by simp; omega
    have n2 : ((t.Weights.length : Int) < e.To) = False := by simp; omega
    have hnext : ∀ j e', k = j + 1 → L[j]? = some e' → e'.To < e.To := fun j e' ej he' => by
      subst ej
      obtain ⟨h1, rfl⟩ := List.getElem?_eq_some_iff.1 he
      obtain ⟨h2, rfl⟩ := List.getElem?_eq_some_iff.1 he'
      exact List.pairwise_iff_getElem.1 tp j (j + 1) _ _ (by omega)
    simp -dsimp -implicitDefEqProofs [lt_t hlt, hlt, he, ge, m1, n1, n2, m4]
    refine fun hll => ⟨by unfold inI; omega, fun _ => ?_⟩
    first
      | refine call_lend (hids) (by simp) rfl ?_
      | refine call_pure (hids) (by simp) rfl ?_
      | refine ⟨_, _, hids, by simp, .inr rfl, ?_⟩
      | refine ⟨_, _, hids, by simp, .inl rfl, ?_⟩
      | refine callE_pure (hids) (by simp) (.inr rfl) ?_
      | refine callE_pure (hids) (by simp) (.inl rfl) ?_
    rcases Nat.eq_zero_or_pos k with e1 | e1
    · subst e1
      simp -dsimp -implicitDefEqProofs [hwy, gwy, lwy, he, ge, hlt]
      first
        | refine call_lend (hE) (by simp) rfl ?_
        | refine call_pure (hE) (by simp) rfl ?_
        | refine ⟨_, _, hE, by simp, .inr rfl, ?_⟩
        | refine ⟨_, _, hE, by simp, .inl rfl, ?_⟩
        | refine callE_pure (hE) (by simp) (.inr rfl) ?_
        | refine callE_pure (hE) (by simp) (.inl rfl) ?_
      simp -dsimp -implicitDefEqProofs
      refine ⟨by unfold inI; omega, 1, hlt, by omega, ?_⟩
      apply le_of <;> simp [AV.refs1, AV.ref0, Obj.refs1, hat] <;> omega
    · obtain ⟨j, hj⟩ : ∃ j, k = j + 1 := ⟨k - 1, by omega⟩
      obtain ⟨e', he'⟩ : ∃ e', L[j]? = some e' := ⟨_, List.getElem?_eq_getElem (by omega)⟩
      have ge' := (List.getElem?_eq_some_iff.1 he').2
      have hlj : j < L.length := by omega
      have hto := hnext j e' hj he'
      have n3 : (e.To ≤ e'.To) = False := by simp; omega
      have n4 : ((k : Int) - 1) = (j : Int) := by omega
      have n5 : (0 < k) = True := by simp; omega
      simp -dsimp -implicitDefEqProofs [hwy, gwy, lwy, he, ge, hlt, n4, n5, he', ge', hlj, n3]
      refine ⟨by unfold inI; omega, ?_⟩
      first
        | refine call_lend (hE) (by simp) rfl ?_
        | refine call_pure (hE) (by simp) rfl ?_
        | refine ⟨_, _, hE, by simp, .inr rfl, ?_⟩
        | refine ⟨_, _, hE, by simp, .inl rfl, ?_⟩
        | refine callE_pure (hE) (by simp) (.inr rfl) ?_
        | refine callE_pure (hE) (by simp) (.inl rfl) ?_
      simp -dsimp -implicitDefEqProofs
      refine ⟨by unfold inI; omega, k + 1, hlt, by omega, ?_⟩
      apply le_of <;> simp [AV.refs1, AV.ref0, Obj.refs1, hat] <;> omega
  · have hkl : k = L.length := by omega
    subst hkl
    obtain ⟨d1, d2⟩ := drawnBook_ok code
    have hDB : PureF Try.prog n_spec_DrawBook [.c (.sl 1 (code.map uenc))] (.c (.sl 5 ((drawnBook code).map Entry.enc))) := (DrawBook_o code hl).pure (by simp)
    simp -dsimp -implicitDefEqProofs
    intro _
    first
      | refine call_lend (hDB) (by simp) rfl ?_
      | refine call_pure (hDB) (by simp) rfl ?_
      | refine ⟨_, _, hDB, by simp, .inr rfl, ?_⟩
      | refine ⟨_, _, hDB, by simp, .inl rfl, ?_⟩
      | refine callE_pure (hDB) (by simp) (.inr rfl) ?_
      | refine callE_pure (hDB) (by simp) (.inl rfl) ?_
    simp -dsimp -implicitDefEqProofs
    generalize drawnBook code = bk at *
    have b1 : BookOk bk = true := by
      simp only [BookOk, Bool.and_eq_true, decide_eq_true_eq, List.all_eq_true]
      exact ⟨by omega, fun e he => (d2 e he).1⟩
    have ball : ∀ e ∈ bk ++ L, EntryOk e = true := fun e he => by
      rcases List.mem_append.1 he with he | he
      · exact (d2 e he).1
      · exact (tm e he).2.2.2.2.1
    have b2 : BookOk (bk ++ L) = true := by
      simp only [BookOk, Bool.and_eq_true, decide_eq_true_eq, List.all_eq_true]
      exact ⟨by rw [List.length_append]; omega, ball⟩
    have hP := PostEntries_implP bk L (by omega) (by omega)
    have eP : PostEntries bk L = (bk ++ L, true) := by unfold PostEntries; rw [b1, b2]; rfl
    rw [eP] at hP
    have hB := BalancesOf_implP (bk ++ L)
    have hln : (bk ++ L).length ≤ 20 := by rw [List.length_append]; omega
    clear eP
    generalize hball : bk ++ L = all at *
    first
      | refine call_lend (hP) (by simp) rfl ?_
      | refine call_pure (hP) (by simp) rfl ?_
      | refine ⟨_, _, hP, by simp, .inr rfl, ?_⟩
      | refine ⟨_, _, hP, by simp, .inl rfl, ?_⟩
      | refine callE_pure (hP) (by simp) (.inr rfl) ?_
      | refine callE_pure (hP) (by simp) (.inl rfl) ?_
    simp -dsimp -implicitDefEqProofs
    have eB : (BalancesOf all).length = 12 ∧ (BalancesOf all).sum = 0 ∧ ∀ y ∈ BalancesOf all, -(2000000000 * 2000) ≤ y ∧ y ≤ 2000000000 * 2000 := by
      have h3 := balTo_in b2 all.length
      unfold BalancesOf
      rw [if_pos b2, ← balTo_all (Nat.le_refl _)]
      exact ⟨balTo_len _, balTo_sum ball _, fun y hy => by have := h3 y hy; omega⟩
    generalize BalancesOf all = B at *
    obtain ⟨eB1, eB2, eB3⟩ := eB
    first
      | refine call_lend (hB) (by simp) rfl ?_
      | refine call_pure (hB) (by simp) rfl ?_
      | refine ⟨_, _, hB, by simp, .inr rfl, ?_⟩
      | refine ⟨_, _, hB, by simp, .inl rfl, ?_⟩
      | refine callE_pure (hB) (by simp) (.inr rfl) ?_
      | refine callE_pure (hB) (by simp) (.inl rfl) ?_
    simp -dsimp -implicitDefEqProofs
    have hTo := TollOf_impl t x t2
    have hTk := TariffOk_impl t
    have hBk := BookOk_impl all
    rw [r1] at hTk
    rw [b2] at hBk
    refine loop_rule (ι := Nat) (fun k => k ≤ 12) (fun k => stOf [(3, .box 3 0), (4, .box 4 0), (6, .c (.i (TollOf t x))), (8, .c (.sl 5 (all.map Entry.enc))), (9, .c (.b true)), (10, .c (.sl 1 (B.map ienc))), (11, .c (.i (sumTo B k))), (12, .c (.i k))] [(3, .box (t.enc.map .c)), (4, .box (x.enc.map .c))]) (fun k => 12 - k) 0 (by simp) (by apply le_of <;> simp [AV.refs1, AV.ref0, Obj.refs1, sumTo_zero, ts]) ?_
    rintro k hk2
    have hsr : -(2000000000 * 2000 * 12) ≤ sumTo B k ∧ sumTo B k ≤ 2000000000 * 2000 * 12 := by
      have := sumTo_rng (l := B) (m := 2000000000 * 2000) eB3 k eB1 (by omega)
      omega
    rcases Nat.lt_or_ge k 12 with hlt | hge2
    · obtain ⟨v, hv⟩ : ∃ v, B[k]? = some v := ⟨_, List.getElem?_eq_getElem (by omega)⟩
      have gv := (List.getElem?_eq_some_iff.1 hv).2
      have hvr := eB3 v (List.mem_of_getElem? hv)
      have hss := sumTo_succ hv
      have hkt : ((k : Int) < 12) = True := by simp; omega
      simp -dsimp -implicitDefEqProofs [eB1, hkt, hv, gv, hlt]
      intro _
      refine ⟨by unfold inI; omega, by unfold inI; omega, k + 1, by omega, by omega, ?_⟩
      apply le_of <;> simp [AV.refs1, AV.ref0, Obj.refs1, hss]
    · have : k = 12 := by omega
      subst this
      have hs0 : sumTo B 12 = 0 := by rw [sumTo_all (by omega)]; exact eB2
      simp -dsimp -implicitDefEqProofs [eB1, hs0]
      intro _
      first
        | refine call_lend (hTo) (by simp) rfl ?_
        | refine call_pure (hTo) (by simp) rfl ?_
        | refine ⟨_, _, hTo, by simp, .inr rfl, ?_⟩
        | refine ⟨_, _, hTo, by simp, .inl rfl, ?_⟩
        | refine callE_pure (hTo) (by simp) (.inr rfl) ?_
        | refine callE_pure (hTo) (by simp) (.inl rfl) ?_
      simp -dsimp -implicitDefEqProofs [eB1, hs0]
      first
        | intro _
        | skip
      first
        | refine call_lend (hTk) (by simp) rfl ?_
        | refine call_pure (hTk) (by simp) rfl ?_
        | refine ⟨_, _, hTk, by simp, .inr rfl, ?_⟩
        | refine ⟨_, _, hTk, by simp, .inl rfl, ?_⟩
        | refine callE_pure (hTk) (by simp) (.inr rfl) ?_
        | refine callE_pure (hTk) (by simp) (.inl rfl) ?_
      simp -dsimp -implicitDefEqProofs
      first
        | refine call_lend (hBk) (by simp) rfl ?_
        | refine call_pure (hBk) (by simp) rfl ?_
        | refine ⟨_, _, hBk, by simp, .inr rfl, ?_⟩
        | refine ⟨_, _, hBk, by simp, .inl rfl, ?_⟩
        | refine callE_pure (hBk) (by simp) (.inr rfl) ?_
        | refine callE_pure (hBk) (by simp) (.inl rfl) ?_
      simp -dsimp -implicitDefEqProofs
theorem nenc_fit {xs : List C} (h : Fits [.u] xs) : ∃ n : Nat, xs = nenc n := by
  obtain ⟨c0, ys, rfl, h0, h⟩ := h.cons_inv
  obtain rfl := h.nil_inv
  obtain ⟨n0, rfl⟩ := h0.u_inv
  exact ⟨n0, rfl⟩
theorem isLaw_FnTolls : IsLaw Rows.fnTollsSpec Try.f4.params.size := by
  refine ⟨rfl, fun H ds h => ?_⟩
  match ds, h with
  | [d0], _ => rfl
theorem lawFacts_FnTolls : LawFacts Try.prog Try.f4 (Try.f4.resultTypes.getD 0 0) [(false, [.sl [.u]])] :=
  ⟨fact_laid, by kernel_rfl, by kernel_rfl, by kernel_rfl, by kernel_rfl⟩
set_option maxRecDepth 100000 in
theorem lifted_FnTolls (os : Os) (started : os.Started) (H : Type) (enc : TypeId × Value → H) :
    ReturnsInHanded {} Try.checked os 4 .any (Rows.fnTollsSpec.pre6 enc Try.prog Try.f4 Rows.fnTollsRow.domain false) (Rows.fnTollsSpec.post enc Try.prog Try.f4 false true false false) := by
  refine law_lifted (C := Try.checked) fact_own started (by kernel_rfl) Try.func4
    (ChangeSpec.witness6 (enc := enc) (C := Try.checked) false ⟨#[], #[.slice none 0 0], []⟩ 8 (by kernel_rfl) (by kernel_rfl) (by kernel_rfl) (by kernel_rfl)) isLaw_FnTolls lawFacts_FnTolls ?_
  rintro avs ⟨a, avs0, rfl, ha, rfl⟩
  cases ha with
  | one h0 =>
    obtain ⟨x0, rfl⟩ := h0.sl_inv nenc fun xs h => nenc_fit h
    exact FnTolls_c x0
theorem facts_FnTolls : rowFacts Try.prog 4 Try.f4 Rows.fnTollsSpec Rows.fnTollsRow = true := by kernel_rfl
theorem named_FnTolls : Try.pinned.checked.prog.funcNamed Rows.fnTollsRow.func = some 4 := by kernel_rfl
theorem inst_FnTolls : Try.f4.isInstance Try.pinned.checked.prog Rows.fnTollsRow.origin Rows.fnTollsRow.targs := (of_decide_eq_true (by kernel_rfl))
theorem wrap_FnTolls : Try.f4.isWrapper Try.pinned.checked.prog Rows.fnTollsRow.wrapper Rows.fnTollsRow.mainSum := by
  unfold Func.isWrapper; first | (rw [if_pos (by decide +kernel)]; kernel_rfl) | (rw [if_neg (by decide +kernel)]; exact ⟨rfl, rfl⟩)
theorem FnTolls_holds : Rows.FnTollsSaid :=
  OpenClaim.holds_of_wide (p := Try.pinned) (s := Rows.fnTollsSpec) (c := Rows.fnTollsRow) 4 Try.f4 rfl rfl rfl rfl rfl rfl rfl ⟨rfl, rfl, rfl, rfl, rfl⟩ rfl rfl rfl rfl rfl named_FnTolls Try.func4
    (joined_of seatFacts facts_FnTolls ⟨rfl, rfl, rfl, rfl, rfl, rfl, rfl, rfl⟩) inst_FnTolls wrap_FnTolls (fun os started H enc _ => lifted_FnTolls os started H enc)
end Go.Proofs.Ytpglolegeidfoaa
