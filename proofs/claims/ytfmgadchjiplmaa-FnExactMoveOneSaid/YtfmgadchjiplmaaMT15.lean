/- Contracts of functions of this seat: what each answers, as plain Lean. -/
import Derived.Test.YtfmgadchjiplmaaMT14
set_option linter.all false
namespace Go.Proofs.Ytfmgadchjiplmaa
open Go.RowKit

def mkP (k : Int) : List C := [.i k, .i (k + 1)]
theorem markPointS_c (xs : List Point) (k : Int) (h0 : 0 ≤ k) (h1 : k + 2 * xs.length ≤ 8000000000000000000) :
    InF Try.prog n_laws_markPointS (.c (cw 2 (xs.map Point.enc))) (.c (cw 2 (marked mkP 2 [] k xs.length))) [.c (.i k)] (.c (.i (k + 2 * xs.length))) := by
  rcases Nat.eq_zero_or_pos xs.length with hx | hx
  · have : xs = [] := List.length_eq_zero_iff.1 hx
    subst this
    refine in_of h_laws_markPointS (by simp) (by simp) rfl fun hwf => ?_
    simp -dsimp -implicitDefEqProofs [c_laws_markPointS, marked]
    refine loop_rule (ι := Unit) (fun _ => True) (fun _ => stOf [(0, .c (.sl 2 [])), (1, .c (.i k)), (5, .c (.i 0)), (1000000, .c (.sl 2 []))] []) (fun _ => 0) () trivial (by apply le_of <;> simp [AV.refs1, AV.ref0, Obj.refs1]) ?_
    rintro _ _
    simp -dsimp -implicitDefEqProofs
  · rw [cw_pos (by simpa using hx), cw_pos (by rw [marked_n]; exact hx)]
    refine in_of h_laws_markPointS (by simp) (by simp) rfl fun hwf => ?_
    simp -dsimp -implicitDefEqProofs [c_laws_markPointS]
    refine loop_rule (ι := Nat) (fun i => i ≤ xs.length) (fun i => stOf [(0, .own 0 2 xs.length), (1, .c (.i (k + 2 * i))), (5, .c (.i i)), (1000000, .own 0 2 xs.length)] [(0, .row 2 (marked mkP 2 (xs.map Point.enc) k i))]) (fun i => xs.length - i) 0 (by simp) (by apply le_of <;> simp [AV.refs1, AV.ref0, Obj.refs1, marked_zero]) ?_
    rintro i hi
    rcases Nat.lt_or_ge i xs.length with hlt | hge
    · obtain ⟨e, he⟩ : ∃ e, xs[i]? = some e := ⟨_, List.getElem?_eq_getElem hlt⟩
      have hg := marked_get (mk := mkP) (c := 2) (k := k) (rows := xs.map Point.enc) (i := i) (r := e.enc) (by simp [he])
      have hl := marked_len (mk := mkP) (c := 2) (k := k) (rows := xs.map Point.enc) (i := i) (by simpa using hi)
      have hs := marked_set (mk := mkP) (c := 2) (k := k) (rows := xs.map Point.enc) (i := i) (by simpa using hlt)
      rw [List.length_map] at hl
      generalize marked mkP 2 (xs.map Point.enc) k i = M at *
      have hlt2 : i < M.length := by omega
      have hself : ∀ a, (M.set i a)[i]? = some a := fun a => List.getElem?_set_self hlt2
      simp only [mkP] at hs
      simp only [Point.enc] at hg
      simp -dsimp -implicitDefEqProofs [lt_t hlt, hg, hl, hlt2, hself]
      intro hlen
      refine ⟨hlt, by unfold inI; omega, hlt, by unfold inI; omega, by unfold inI; omega, i + 1, hlt, by omega, ?_⟩
      apply le_of <;> simp [AV.refs1, AV.ref0, Obj.refs1, hs, hself] <;> omega
    · have : i = xs.length := by omega
      subst this
      simp -dsimp -implicitDefEqProofs
      intro _
      have e := marked_all (mk := mkP) (c := 2) (rows := xs.map Point.enc) (k := k) (i := xs.length) (by simp)
      rw [e, List.length_map, List.take_of_length_le (by rw [marked_n]; exact Nat.le_refl _)]
@[simp] def Reach.oenc (e : Reach) : List C := [.ow 2 (e.Table.map Point.enc), .i e.Volume, .ow 1 (e.Pipe.map ienc)]
theorem Reach.oenc_shr (e : Reach) : shrl e.oenc = some e.enc := by simp [Reach.oenc, shrl, C.shr]
theorem toReach_o (e : Reach) (hl : Reach.small e) : OwnF Try.prog n_laws_toReach [.agg (e.enc.map .c)] (.agg (e.oenc.map .c)) := by
  refine own_of h_laws_toReach (by simp) fun hwf => ?_
  simp -dsimp -implicitDefEqProofs [c_laws_toReach]
  first
    | refine call_own (toPointS_o e.Table hl.1) (by simp ) (by simp [AV.closed, AV.closed1, C.closed]) (by simp [freshO]) ?_
    | refine callE_own (toPointS_o e.Table hl.1) (by simp ) (by simp [AV.closed, AV.closed1, C.closed]) (by simp [freshO]) ?_
  simp -dsimp -implicitDefEqProofs [take_full]
  first
    | refine call_own (toIntS_o e.Pipe hl.2.1) (by simp ) (by simp [AV.closed, AV.closed1, C.closed]) (by simp [freshO]) ?_
    | refine callE_own (toIntS_o e.Pipe hl.2.1) (by simp ) (by simp [AV.closed, AV.closed1, C.closed]) (by simp [freshO]) ?_
  simp -dsimp -implicitDefEqProofs [take_full]
def nR (e : Reach) : Int := 2 * e.Table.length + e.Pipe.length
def markReach_x (e : Reach) (k : Int) : List C := [cw 2 (marked mkP 2 [] k e.Table.length), .i e.Volume, cw 1 (marked ienc 1 [] (k + 2 * e.Table.length) e.Pipe.length)]
def Reach.cenc (e : Reach) : List C := [cw 2 (e.Table.map Point.enc), .i e.Volume, cw 1 (e.Pipe.map ienc)]
theorem markReach_c (e : Reach) (k : Int) (h0 : 0 ≤ k) (h1 : k + nR e ≤ 8000000000000000000) :
    InF Try.prog n_laws_markReach (.agg (e.cenc.map .c)) (.agg ((markReach_x e k).map .c)) [.c (.i k)] (.c (.i (k + nR e))) := by
  obtain ⟨t, v, p⟩ := e
  simp only [nR] at h1
  have ht : t.length = 0 ∨ 0 < t.length := by omega
  have hp : p.length = 0 ∨ 0 < p.length := by omega
  rcases ht with ht | ht <;> rcases hp with hp | hp
  · have : t = [] := List.length_eq_zero_iff.1 ht
    subst this
    have : p = [] := List.length_eq_zero_iff.1 hp
    subst this
    have m1 := markPointS_c [] k h0 (by first | omega | (simp at h1; omega) | (simp at h1 ⊢; omega))
    have m2 := markIntS_c [] k (by omega) (by first | omega | (simp at h1; omega) | (simp at h1 ⊢; omega))
    refine in_of h_laws_markReach (by simp) (by simp [Reach.cenc, marked]) rfl fun hwf => ?_
    simp -dsimp -implicitDefEqProofs [c_laws_markReach, Reach.cenc]
    refine call_in1 (up := none) m1 (by simp) rfl rfl (ioC_c rfl) ?_
    simp -dsimp -implicitDefEqProofs
    refine call_in1 (up := none) m2 (by simp) rfl rfl (ioC_c rfl) ?_
    simp -dsimp -implicitDefEqProofs [markReach_x, nR, marked_n, take_marked]
    exact ⟨rfl, rfl⟩
  · have : t = [] := List.length_eq_zero_iff.1 ht
    subst this
    have m1 := markPointS_c [] k h0 (by first | omega | (simp at h1; omega) | (simp at h1 ⊢; omega))
    have m2 := markIntS_c p k (by omega) (by first | omega | (simp at h1; omega) | (simp at h1 ⊢; omega))
    have c0 := cw_pos (k := 1) (rows := p.map ienc) (by simpa using hp)
    have c1 := cw_pos (k := 1) (rows := marked ienc 1 [] k p.length) (by rw [marked_n]; exact hp)
    refine in_of h_laws_markReach (by simp) (by simp [Reach.cenc, marked, c0, c1]) rfl fun hwf => ?_
    simp -dsimp -implicitDefEqProofs [c_laws_markReach, Reach.cenc, c0, c1]
    refine call_in1 (up := none) m1 (by simp) rfl rfl (ioC_c rfl) ?_
    simp -dsimp -implicitDefEqProofs
    refine call_in1 (up := some (30000, .row 1 (marked ienc 1 [] k p.length))) m2 (by simp) rfl rfl (ioC_row (rows := p.map ienc) (by simp) rfl rfl (by simp) (by simp [marked_n]) rfl rfl) ?_
    simp -dsimp -implicitDefEqProofs [markReach_x, nR, marked_n, take_marked, c0, c1]
    rfl
  · have : p = [] := List.length_eq_zero_iff.1 hp
    subst this
    have m1 := markPointS_c t k h0 (by first | omega | (simp at h1; omega) | (simp at h1 ⊢; omega))
    have m2 := markIntS_c [] (k + 2 * t.length) (by omega) (by first | omega | (simp at h1; omega) | (simp at h1 ⊢; omega))
    have c0 := cw_pos (k := 2) (rows := t.map Point.enc) (by simpa using ht)
    have c1 := cw_pos (k := 2) (rows := marked mkP 2 [] k t.length) (by rw [marked_n]; exact ht)
    refine in_of h_laws_markReach (by simp) (by simp [Reach.cenc, marked, c0, c1]) rfl fun hwf => ?_
    simp -dsimp -implicitDefEqProofs [c_laws_markReach, Reach.cenc, c0, c1]
    refine call_in1 (up := some (10000, .row 2 (marked mkP 2 [] k t.length))) m1 (by simp) rfl rfl (ioC_row (rows := t.map Point.enc) (by simp) rfl rfl (by simp) (by simp [marked_n]) rfl rfl) ?_
    simp -dsimp -implicitDefEqProofs
    refine call_in1 (up := none) m2 (by simp) rfl rfl (ioC_c rfl) ?_
    simp -dsimp -implicitDefEqProofs [markReach_x, nR, marked_n, take_marked, c0, c1]
    rfl
  · have m1 := markPointS_c t k h0 (by first | omega | (simp at h1; omega) | (simp at h1 ⊢; omega))
    have m2 := markIntS_c p (k + 2 * t.length) (by omega) (by first | omega | (simp at h1; omega) | (simp at h1 ⊢; omega))
    have c0 := cw_pos (k := 2) (rows := t.map Point.enc) (by simpa using ht)
    have c1 := cw_pos (k := 2) (rows := marked mkP 2 [] k t.length) (by rw [marked_n]; exact ht)
    have c2 := cw_pos (k := 1) (rows := p.map ienc) (by simpa using hp)
    have c3 := cw_pos (k := 1) (rows := marked ienc 1 [] (k + 2 * t.length) p.length) (by rw [marked_n]; exact hp)
    refine in_of h_laws_markReach (by simp) (by simp [Reach.cenc, marked, c0, c1, c2, c3]) rfl fun hwf => ?_
    simp -dsimp -implicitDefEqProofs [c_laws_markReach, Reach.cenc, c0, c1, c2, c3]
    refine call_in1 (up := some (10000, .row 2 (marked mkP 2 [] k t.length))) m1 (by simp) rfl rfl (ioC_row (rows := t.map Point.enc) (by simp) rfl rfl (by simp) (by simp [marked_n]) rfl rfl) ?_
    simp -dsimp -implicitDefEqProofs
    refine call_in1 (up := some (30000, .row 1 (marked ienc 1 [] (k + 2 * t.length) p.length))) m2 (by simp) rfl rfl (ioC_row (rows := p.map ienc) (by simp) rfl rfl (by simp) (by simp [marked_n]) rfl rfl) ?_
    simp -dsimp -implicitDefEqProofs [markReach_x, nR, marked_n, take_marked, c0, c1, c2, c3]
    omega
def fM (k : Int) (e : Mover) : List C := [.b (decide (k.tmod 3 = 0)), .ot 1 (seqM fB nB (k + 1) e.Train.Rows), .i (k + 1 + cnt nB e.Train.Rows)]
def nM (e : Mover) : Nat := 1 + cnt nB e.Train.Rows + 1
theorem markMoverS_c (xs : List Mover) (k : Int) (h0 : 0 ≤ k) (h1 : k + cnt nM xs ≤ 8000000000000000000) :
    InF Try.prog n_laws_markMoverS (.c (ct 3 (xs.map Mover.oenc))) (.c (ct 3 (seqM fM nM k xs))) [.c (.i k)] (.c (.i (k + cnt nM xs))) := by
  rcases Nat.eq_zero_or_pos xs.length with hx | hx
  · have : xs = [] := List.length_eq_zero_iff.1 hx
    subst this
    refine in_of h_laws_markMoverS (by simp) (by simp) rfl fun hwf => ?_
    simp -dsimp -implicitDefEqProofs [c_laws_markMoverS, seqM, cnt]
    refine loop_rule (ι := Unit) (fun _ => True) (fun _ => stOf [(0, .c (.sl 3 [])), (1, .c (.i k)), (5, .c (.i 0)), (1000000, .c (.sl 3 []))] []) (fun _ => 0) () trivial (by apply le_of <;> simp [AV.refs1, AV.ref0, Obj.refs1]) ?_
    rintro _ _
    simp -dsimp -implicitDefEqProofs
  · rw [ct_pos (by simpa using hx), ct_pos (by rw [seqM_len]; exact hx)]
    refine in_of h_laws_markMoverS (by simp) (by simp) rfl fun hwf => ?_
    simp -dsimp -implicitDefEqProofs [c_laws_markMoverS]
    refine loop_rule (ι := Nat) (fun i => i ≤ xs.length) (fun i => stOf [(0, .own 0 3 xs.length), (1, .c (.i (k + cntTo nM xs i))), (5, .c (.i i)), (1000000, .own 0 3 xs.length)] [(0, .tr 3 0 (seqTo fM Mover.oenc nM k xs i))]) (fun i => xs.length - i) 0 (by simp) (by apply le_of <;> simp [AV.refs1, AV.ref0, Obj.refs1, seqTo_zero, cntTo_zero, Obj.leO]) ?_
    rintro i hi
    rcases Nat.lt_or_ge i xs.length with hlt | hge
    · obtain ⟨e, he⟩ : ∃ e, xs[i]? = some e := ⟨_, List.getElem?_eq_getElem hlt⟩
      have hg := seqTo_get (f := fM) (g := Mover.oenc) (n := nM) (k := k) he
      have hl := seqTo_len (f := fM) (g := Mover.oenc) (n := nM) (k := k) (xs := xs) (i := i)
      have hs := seqTo_set (f := fM) (g := Mover.oenc) (n := nM) (k := k) he
      have hc := cntTo_succ (n := nM) he
      have hle := cntTo_le (n := nM) (xs := xs) (i := i + 1)
      have hn : nM e = 1 + cnt nB e.Train.Rows + 1 := rfl
      generalize hM : seqTo fM Mover.oenc nM k xs i = M at *
      have hlt2 : i < M.length := by omega
      have g1 : M[i] = e.oenc := (List.getElem?_eq_some_iff.1 hg).2
      have hself : ∀ a, (M.set i a)[i]? = some a := fun a => List.getElem?_set_self hlt2
      simp only [Mover.oenc] at hg g1
      simp -dsimp -implicitDefEqProofs [lt_t hlt, hg, hl, hlt2, g1, hself, setAt]
      intro hlen
      have hk : 0 ≤ k + cntTo nM xs i := by omega
      have c1 : C.ot 1 (e.Train.Rows.map eo_BoatS) = C.ot 1 (e.Train.Rows.map eo_BoatS) := rfl
      refine ⟨by have := Int.tmod_nonneg 3 hk; have := Int.tmod_lt_of_pos (k + cntTo nM xs i) (b := 3) (by omega); unfold inI; omega, hlt, by unfold inI; omega, hlt, ?_⟩
      refine call_inSub (k0 := 3) (ver := 1) (j := 1) (i := (i : Int)) (r := [.b (decide ((k + cntTo nM xs i).tmod 3 = 0)), .ot 1 (e.Train.Rows.map eo_BoatS), .i e.Place]) (c := .ot 1 (e.Train.Rows.map eo_BoatS)) (c' := .ot 1 (seqM fB nB (k + cntTo nM xs i + 1) e.Train.Rows)) (markBoatSS_c e.Train.Rows (k + cntTo nM xs i + 1) (by omega) (by omega)) (by simp) rfl rfl rfl (by simpa using hself _) rfl ⟨_, by rw [seqM_len]; simp, rfl, rfl, rfl⟩ (by simp [C.sz]) ?_
      simp -dsimp -implicitDefEqProofs [setAt, hself, hlt2, hl]
      refine ⟨hlt, by unfold inI; omega, inI_succ hlt hlen, i + 1, hlt, by omega, ?_⟩
      simp only [fM] at hs
      apply le_of <;> simp [AV.refs1, AV.ref0, Obj.refs1, Obj.leO, hs] <;> omega
    · have : i = xs.length := by omega
      subst this
      simp -dsimp -implicitDefEqProofs
      intro _
      rw [seqTo_all (Nat.le_refl _), cntTo_all (Nat.le_refl _), List.take_of_length_le (by rw [seqM_len]; exact Nat.le_refl _)]
      exact ⟨rfl, rfl⟩
theorem cnt_le {α : Type} {n : α → Nat} {B : Nat} : ∀ {l : List α}, (∀ x ∈ l, n x ≤ B) → cnt n l ≤ l.length * B
  | [], _ => by simp [cnt]
  | x :: l, h => by
    have h1 := cnt_le (l := l) fun y hy => h y (by simp [hy])
    have h2 := h x (by simp)
    simp only [cnt, List.map_cons, List.sum_cons, List.length_cons, Nat.add_mul, Nat.one_mul] at h1 ⊢; omega
theorem cntB_le {l : List (List Boat)} (h : small_BoatSS l) : cnt nB l ≤ 6597069766656 := by
  have h1 := cnt_le (n := nB) (B := 6291456) (l := l) fun x hx => by have := (h.2 x hx).1; unfold nB; omega
  have h2 := Nat.mul_le_mul_right 6291456 h.1
  omega
theorem nR_le {r : Reach} (h : r.small) : nR r ≤ 3145728 := by
  have h1 := h.1.1; have h2 := h.2.1
  unfold nR; omega

end Go.Proofs.Ytfmgadchjiplmaa
