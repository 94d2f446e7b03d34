/- Contracts of functions of this seat: what each answers, as plain Lean. -/
import Derived.Test.YtenfgllkjgfjpaaMT6
set_option linter.all false
namespace Go.Proofs.Ytenfgllkjgfjpaa
open Go.RowKit

def idOf (b : Boat) : Int := b.Id
def full (r : List Boat) : Bool := decide (r.length ≠ 0)
theorem full_iff {r : List Boat} : full r = true ↔ r.length ≠ 0 := by simp [full]
def TrainOk (t : Train) : Bool := t.Rows.all full && t.boats.all BoatOk && decide ((t.boats.map idOf).Nodup) && inRange t.boats.length 1 6

theorem nodup_take {l : List Boat} {k : Nat} {b : Boat} (h : l[k]? = some b) : (((l.take (k + 1)).map idOf).Nodup ↔ ((l.take k).map idOf).Nodup ∧ b.Id ∉ (l.take k).map idOf) := by
  rw [List.take_succ, h, List.map_append]
  simp only [Option.toList_some, List.map_cons, List.map_nil, List.nodup_append, List.nodup_cons, List.not_mem_nil, not_false_eq_true, List.nodup_nil, and_self, true_and, List.mem_singleton, forall_eq, idOf]
  constructor
  · rintro ⟨h1, h2⟩; exact ⟨h1, fun hm => h2 _ hm rfl⟩
  · rintro ⟨h1, h2⟩; exact ⟨h1, fun x hx e => h2 (e ▸ hx)⟩
theorem not_nodup {l : List Boat} {k : Nat} (h : ¬ ((l.take k).map idOf).Nodup) : ¬ (l.map idOf).Nodup := by
  intro hn
  refine h ?_
  rw [← List.take_append_drop k l, List.map_append] at hn
  exact (List.nodup_append.1 hn).1

def idsTo (l : List Boat) (k : Nat) : List Int := (l.take k).map idOf
theorem TrainOk_spec (t : Train) (h : t.small) : PureF Try.prog n_spec_TrainOk [.agg (t.enc.map .c)] (.c (.b (TrainOk t))) := by
  refine pure_of h_spec_TrainOk (by simp) fun hwf => ?_
  simp -dsimp -implicitDefEqProofs [c_spec_TrainOk]
  refine call_pure (l04Boats_c t h) (by simp) rfl ?_
  simp -dsimp -implicitDefEqProofs
  refine loop_rule (ι := Nat) (fun k => k ≤ t.Rows.length ∧ ∀ r ∈ t.Rows.take k, full r = true) (fun k => stOf [(1, .box 1 0), (3, .c (.sl 6 (t.boats.map Boat.enc))), (4, .c (.i k))] [(1, .box (t.enc.map .c))]) (fun k => t.Rows.length - k) 0 (by simp) (by apply le_of <;> simp [AV.refs1, AV.ref0, Obj.refs1]) ?_
  rintro k ⟨hk, hall⟩
  rcases Nat.lt_or_ge k t.Rows.length with hlt | hge
  · obtain ⟨r, hr⟩ : ∃ r, t.Rows[k]? = some r := ⟨_, List.getElem?_eq_getElem hlt⟩
    simp -dsimp -implicitDefEqProofs [hr, lt_t hlt]
    intro hlen _
    refine ⟨fun h0 => ?_, fun h0 => ?_⟩
    · have : t.Rows.all full = false := all_false (p := full) hr (by simp [full, h0])
      simp only [TrainOk, this, Bool.false_and]
    · exact ⟨inI_succ hlt hlen, k + 1, ⟨by omega, all_take_succ (p := full) hr hall (by simp [full, h0])⟩, by omega, by apply le_of <;> simp [AV.refs1, AV.ref0, Obj.refs1]⟩
  · have hrows := all_of_take (p := full) hge hall
    simp -dsimp -implicitDefEqProofs [lt_f hge]
    intro _
    have hbl := boats_le h
    refine loop_rule (ι := Nat) (fun k => k ≤ t.boats.length ∧ (∀ b ∈ t.boats.take k, BoatOk b = true) ∧ (idsTo t.boats k).Nodup) (fun k => stOf [(3, .c (.sl 6 (t.boats.map Boat.enc))), (5, .c (.i k))] []) (fun k => t.boats.length - k) 0 (by simp [idsTo]) (by apply le_of <;> simp [AV.refs1, AV.ref0, Obj.refs1]) ?_
    rintro k ⟨hk, hok, hnd⟩
    have fin : t.boats.length ≤ 6 → k = t.boats.length → TrainOk t = inRange t.boats.length 1 6 := by
      intro h6 e
      have h1 := all_of_take (p := BoatOk) (by omega) hok
      rw [e, idsTo, List.take_length] at hnd
      simp [TrainOk, hrows, h1, hnd]
    rcases Nat.lt_or_ge k t.boats.length with hlt | hge
    · obtain ⟨b, hb⟩ : ∃ b, t.boats[k]? = some b := ⟨_, List.getElem?_eq_getElem hlt⟩
      by_cases h6 : t.boats.length ≤ 6
      · have h6' : ((t.boats.length : Int) ≤ 6) = True := by simp; omega
        simp -dsimp -implicitDefEqProofs [hb, lt_t hlt, h6']
        intro hlen
        refine call_lend (BoatOk_spec b) (by simp) rfl ?_
        simp -dsimp -implicitDefEqProofs
        refine ⟨fun h1 => ?_, fun h1 => ?_⟩
        · have : t.boats.all BoatOk = false := all_false (p := BoatOk) hb h1
          simp only [TrainOk, this, Bool.false_and, Bool.and_false]
        have hok' := all_take_succ (p := BoatOk) hb hok h1
        refine loop_rule (ι := Nat) (fun i => i ≤ k ∧ b.Id ∉ idsTo t.boats i) (fun i => stOf [(3, .c (.sl 6 (t.boats.map Boat.enc))), (5, .c (.i k)), (6, .c (.i i))] []) (fun i => k - i) 0 (by simp [idsTo]) (by apply le_of <;> simp [AV.refs1, AV.ref0, Obj.refs1]) ?_
        rintro i ⟨hi, hni⟩
        rcases Nat.lt_or_ge i k with hlt2 | hge2
        · obtain ⟨c, hc⟩ : ∃ c, t.boats[i]? = some c := ⟨_, List.getElem?_eq_getElem (by omega)⟩
          have hi3 : (i : Int) < t.boats.length := by omega
          simp -dsimp -implicitDefEqProofs [hb, hc, lt_t hlt, lt_t hlt2, hi3]
          refine ⟨fun h2 => ?_, fun h2 => ?_⟩
          · have : ¬ (t.boats.map idOf).Nodup := by
              refine not_nodup (k := k + 1) fun hn => ?_
              refine ((nodup_take hb).1 hn).2 ?_
              rw [← h2]
              exact List.mem_map.2 ⟨c, List.mem_iff_getElem?.2 ⟨i, by rw [List.getElem?_take, if_pos hlt2]; exact hc⟩, rfl⟩
            simp [TrainOk, this]
          · refine ⟨by unfold inI; omega, i + 1, ⟨hlt2, ?_⟩, by omega, by apply le_of <;> simp [AV.refs1, AV.ref0, Obj.refs1]⟩
            rw [idsTo, List.take_succ, hc, List.map_append]
            simp only [List.mem_append, Option.toList_some, List.map_cons, List.map_nil, List.mem_singleton, idOf]
            rintro (h3 | h3)
            · exact hni h3
            · exact h2 h3.symm
        · simp -dsimp -implicitDefEqProofs [lt_f hge2]
          have e : i = k := by omega
          rw [e] at hni
          exact ⟨by unfold inI; omega, k + 1, ⟨hlt, hok', (nodup_take hb).2 ⟨hnd, hni⟩⟩, by omega, by apply le_of <;> simp [AV.refs1, AV.ref0, Obj.refs1]⟩
      · have h6' : ((t.boats.length : Int) ≤ 6) = False := by simp; omega
        simp -dsimp -implicitDefEqProofs [hb, lt_t hlt, h6']
        intro hlen
        refine call_lend (inRange_spec t.boats.length 1 6) (by simp) rfl ?_
        simp -dsimp -implicitDefEqProofs
        have h7 : inRange t.boats.length 1 6 = false := inRange_not.2 (by omega)
        simp only [TrainOk, h7, Bool.and_false]
    · simp -dsimp -implicitDefEqProofs [lt_f hge]
      intro hlen
      refine call_lend (inRange_spec t.boats.length 1 6) (by simp) rfl ?_
      simp -dsimp -implicitDefEqProofs
      by_cases h6 : t.boats.length ≤ 6
      · rw [fin h6 (by omega)]
      · have h7 : inRange t.boats.length 1 6 = false := inRange_not.2 (by omega)
        simp only [TrainOk, h7, Bool.and_false]

end Go.Proofs.Ytenfgllkjgfjpaa
