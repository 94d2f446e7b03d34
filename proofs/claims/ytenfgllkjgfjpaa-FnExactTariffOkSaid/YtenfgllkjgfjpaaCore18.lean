/- The abstract machine, part 18: weakest preconditions of whole bodies, loops. -/
import Derived.Test.YtenfgllkjgfjpaaCore17
set_option linter.all false
namespace Go.Proofs.Ytenfgllkjgfjpaa
open Go.RowKit

def lift (g : Ghost) (Q : Ex → St → Prop) : Exit → Act → World → Prop
  | .normal, a, w => ∃ s blk, Q .normal s ∧ Repr g s a w blk
  | .exit id, a, w => ∃ s blk, Q (.exit id) s ∧ Repr g s a w blk
  | .ret, a, w => ∃ s blk, Q .ret s ∧ Repr g s a w blk
  | _, _, _ => False

def loopP (P : Program) (N : Nat) (c : SC) (s : St) (Q : Ex → St → Prop) : Prop :=
  ∀ g, g.N = N → ∀ code, comp P N code = some c → ∀ a w blk, Repr g s a w blk → (Code.loop code).wp P (lift g Q) a w

def wpS (P : Program) (N : Nat) : SC → St → (Ex → St → Prop) → Prop
  | .skip, s, Q => Q .normal s
  | .reg l, s, Q => wpI P l s (Q .normal)
  | .regq l, s, Q => wpQ P l s (Q .normal)
  | .seq a b, s, Q => wpS P N a s (Ex.then (fun _ s' => wpS P N b s' Q) Q)
  | .cond x a b, s, Q => condP (s.ev x) (wpS P N a s Q) (wpS P N b s Q)
  | .block id c, s, Q => wpS P N c s (Ex.inBlock id Q)
  | .loop c, s, Q => loopP P N c s Q
  | .exit id, s, Q => Q (.exit id) s
  | .ret, s, Q => Q .ret s

theorem wpS_sound {P : Program} {g : Ghost} {N : Nat} (hN : g.N = N) : ∀ {code : Code} {c : SC} {s : St} {Q : Ex → St → Prop} {a : Act} {w : World} {blk : Nat → Option Nat},
    comp P N code = some c → wpS P N c s Q → Repr g s a w blk → code.wp P (lift g Q) a w := by
  intro code
  induction code with
  | skip => intro c s Q a w blk hc hw h; cases hc; exact wp_skip ⟨s, blk, hw, h⟩
  | region id ops draw =>
    intro c s Q a w blk hc hw h
    simp only [comp] at hc
    split at hc
    · rename_i hd
      simp only [Option.map_eq_some_iff] at hc
      obtain ⟨l, hl, rfl⟩ := hc
      subst hd
      exact regQ_sound hN hl h hw fun s' a' w' blk' k r => ⟨s', blk', k, r⟩
    · rename_i hd
      simp only [Option.map_eq_some_iff] at hc
      obtain ⟨l, hl, rfl⟩ := hc
      have e : draw = false := by simpa using hd
      subst e
      exact wp_region_list (wpI_sound hN hl h hw fun s' blk' a' w' k r => ⟨s', blk', k, r⟩)
  | seq x y ihx ihy =>
    intro c s Q a w blk hc hw h
    simp only [comp] at hc
    split at hc
    · rename_i cx cy h1 h2
      cases hc
      refine wp_seq (Code.wp_mono ?_ (ihx h1 hw h))
      intro e a' w' hl
      cases e with
      | normal => obtain ⟨s', blk', k, r⟩ := hl; exact ihy h2 k r
      | exit id => exact hl
      | ret => exact hl
      | goto l => exact hl
      | panic ch => exact hl
      | outgrown => exact hl
    · cases hc
  | cond x t e iht ihe =>
    intro c s Q a w blk hc hw h
    simp only [comp] at hc
    split at hc
    · rename_i cx' ct ce h1 h2 h3
      cases hc
      simp only [wpS] at hw
      have hx := h.ev h1
      unfold condP at hw
      split at hw
      · rename_i v hv
        rw [hv] at hx
        refine wp_cond (t := v) hx.bool ?_
        cases v
        · exact ihe h3 (hw.2 rfl) h
        · exact iht h2 (hw.1 rfl) h
      · exact hw.elim
    · cases hc
  | block id body ih =>
    intro c s Q a w blk hc hw h
    simp only [comp, Option.map_eq_some_iff] at hc
    obtain ⟨cb, hb, rfl⟩ := hc
    refine wp_block (Code.wp_mono ?_ (ih hb hw h))
    intro e a' w' hl
    cases e with
    | normal => exact hl
    | exit id' =>
      obtain ⟨s', blk', k, r⟩ := hl
      simp only [Exit.inBlock]
      simp only [Ex.inBlock] at k
      split
      · rename_i e; rw [if_pos e] at k; exact ⟨s', blk', k, r⟩
      · rename_i e; rw [if_neg e] at k; exact ⟨s', blk', k, r⟩
    | ret => exact hl
    | goto l => exact hl
    | panic ch => exact hl
    | outgrown => exact hl
  | loop body ih =>
    intro c s Q a w blk hc hw h
    simp only [comp, Option.map_eq_some_iff] at hc
    obtain ⟨cb, hb, rfl⟩ := hc
    exact hw g hN body hb a w blk h
  | exit id => intro c s Q a w blk hc hw h; cases hc; exact wp_exit ⟨s, blk, hw, h⟩
  | ret => intro c s Q a w blk hc hw h; cases hc; exact wp_ret ⟨s, blk, hw, h⟩
  | rangeFunc f ps x y => intro c s Q a w blk hc; cases hc
  | scope b => intro c s Q a w blk hc; cases hc
  | label l => intro c s Q a w blk hc; cases hc
  | goto l => intro c s Q a w blk hc; cases hc
  | refuse wy => intro c s Q a w blk hc; cases hc

/-- Every state that s describes is described by s'. -/
def St.le (s s' : St) : Prop := ∀ (g : Ghost) (a : Act) (w : World) (blk : Nat → Option Nat), Repr g s a w blk → ∃ blk', Repr g s' a w blk'

theorem St.le_refl (s : St) : s.le s := fun _ _ _ blk h => ⟨blk, h⟩

/-- A loop: a family of states, a measure. -/
theorem loop_rule {P : Program} {N : Nat} {c : SC} {s : St} {Q : Ex → St → Prop} {ι : Type} (I : ι → Prop) (S : ι → St) (μ : ι → Nat) (i0 : ι) (h0 : I i0) (hs : s.le (S i0))
    (round : ∀ i, I i → wpS P N c (S i) (Ex.then (fun _ s' => ∃ j, I j ∧ μ j < μ i ∧ s'.le (S j)) Q)) : loopP P N c s Q := by
  intro g hN code hc a w blk h b k cs
  have key : ∀ n i, μ i = n → I i → ∀ a w blk, Repr g (S i) a w blk →
      ∃ e a' w', lift g Q e a' w' ∧ Arrives P (lone (b.at a (.code code :: .inLoop code :: k)) cs w) b k cs e a' w' := by
    intro n
    induction n using Nat.strongRecOn with
    | _ n ih =>
      intro i hn hI a w blk h
      obtain ⟨e, a1, w1, hq, harr⟩ := wpS_sound hN hc (round i hI) h b (.inLoop code :: k) cs
      cases e with
      | normal =>
        obtain ⟨s1, blk1, ⟨j, hj, hlt, hle⟩, r1⟩ := hq
        obtain ⟨blk2, r2⟩ := hle g a1 w1 blk1 r1
        obtain ⟨e2, a2, w2, hq2, harr2⟩ := ih (μ j) (hn ▸ hlt) j rfl hj a1 w1 blk2 r2
        exact ⟨e2, a2, w2, hq2, .of_steps (Steps.trans harr (.one step_inLoop)) harr2⟩
      | exit id => exact ⟨.exit id, a1, w1, hq, .pass (x := .inLoop code) rfl (fun _ _ => .inl (by simp)) harr⟩
      | ret => exact ⟨.ret, a1, w1, hq, .pass (x := .inLoop code) rfl (fun _ _ => .inl (by simp)) harr⟩
      | goto l => exact hq.elim
      | panic ch => exact hq.elim
      | outgrown => exact hq.elim
  obtain ⟨blk1, h1⟩ := hs g a w blk h
  obtain ⟨e, a', w', hq, harr⟩ := key _ i0 rfl h0 a w blk1 h1
  exact ⟨e, a', w', hq, .of_steps (.one step_loop) harr⟩

/-! Forgetting: fewer slots, fewer objects. -/

def AV.refs1 (ids : List Nat) : AV → Bool
  | .box i _ | .row i _ _ _ | .own i _ _ => ids.contains i
  | .agg l => l.all fun x => match x with | .box i _ | .row i _ _ _ | .own i _ _ => ids.contains i | _ => true
  | .tup _ => false
  | _ => true
def Obj.refs1 (ids : List Nat) : Obj → Bool
  | .box l => l.all (AV.refs1 ids)
  | _ => true

section
variable {g : Ghost} {s s' : St} {a : Act} {w : World} {blk : Nat → Option Nat}

theorem RV1.sub {G G' : Nat → Prop} {O O' : Nat → Obj} {ids : List Nat} {v : Value} {x : AV} (hG : ∀ b, G b → G' b) (hO : ∀ id, id ∈ ids → O' id = O id) (h : RV1 w G O blk v x) (hr : x.refs1 ids = true) : RV1 w G' O' blk v x := by
  cases x with
  | any => trivial
  | und => exact h
  | c x => exact Rd.mono h hG (fun _ _ _ h => h)
  | nil => exact h
  | clip k rows => obtain ⟨a, n, e, hr⟩ := h; exact ⟨a, n, e, hr.mono hG (fun _ _ _ h => h)⟩
  | box id off =>
    obtain ⟨b, cells, ho, r⟩ := h
    exact ⟨b, cells, by rw [hO id (by simpa [AV.refs1] using hr)]; exact ho, r⟩
  | row id k i off =>
    obtain ⟨b, cells, ho, r⟩ := h
    exact ⟨b, cells, by rw [hO id (by simpa [AV.refs1] using hr)]; exact ho, r⟩
  | elt cs =>
    obtain ⟨ad, e, hc⟩ := h
    exact ⟨ad, e, fun j c hj => let ⟨hg, u, hu, hr⟩ := hc j c hj; ⟨hG _ hg, u, hu, hr.mono hG (fun _ _ _ h => h)⟩⟩
  | own id k n =>
    obtain ⟨rows, ho, r⟩ := h
    exact ⟨rows, by rw [hO id (by simpa [AV.refs1] using hr)]; exact ho, r⟩
  | agg l => exact h
  | tup l => exact h

theorem RV.sub {G G' : Nat → Prop} {O O' : Nat → Obj} {ids : List Nat} {v : Value} {x : AV} (hG : ∀ b, G b → G' b) (hO : ∀ id, id ∈ ids → O' id = O id) (h : RV w G O blk v x) (hr : x.refs1 ids = true) : RV w G' O' blk v x := by
  cases x
  case tup l => simp [AV.refs1] at hr
  case agg l =>
    obtain ⟨arr, e, hs, hx⟩ := h
    refine ⟨arr, e, hs, fun j x hj => ?_⟩
    obtain ⟨u, hu, hru⟩ := hx j x hj
    refine ⟨u, hu, RV1.sub hG hO hru ?_⟩
    have := List.all_eq_true.1 hr x (List.mem_of_getElem? hj)
    cases x <;> first | exact this | rfl | exact hru.elim
  all_goals (simp only [RV, RV2] at h ⊢; exact RV1.sub hG hO h hr)

theorem look_of_all {α : Type} (d : α) (f : Nat → α) : ∀ (l : List (Nat × α)), (∀ p ∈ l, f p.1 = p.2) → ∀ t, look d l t = d ∨ (f t = look d l t ∧ (t, look d l t) ∈ l)
  | [], _, _ => .inl rfl
  | (k, v) :: l, h, t => by
    rw [look_cons]
    split
    · rename_i e; subst e; exact .inr ⟨h (_, v) (by simp), by simp⟩
    · rcases look_of_all d f l (fun p hp => h p (by simp [hp])) t with e | ⟨e, hm⟩
      · exact .inl e
      · exact .inr ⟨e, by simp [hm]⟩

/-- A state given by its rows. -/
def stOf (L : List (Nat × AV)) (O : List (Nat × Obj)) : St := ⟨look .any L, look .none O⟩

theorem le_of {L : List (Nat × AV)} {OL : List (Nat × Obj)} (he : ∀ p ∈ L, s.env p.1 = p.2) (ho : ∀ p ∈ OL, s.objs p.1 = p.2)
    (hr : (L.all fun p => p.2.refs1 (OL.map (·.1))) = true) (hro : (OL.all fun p => p.2.refs1 (OL.map (·.1))) = true) : s.le (stOf L OL) := by
  intro g a w blk h
  have hO : ∀ id, id ∈ OL.map (·.1) → look .none OL id = s.objs id := by
    intro id hid
    obtain ⟨p, hp, rfl⟩ := List.mem_map.1 hid
    have : ∀ (l : List (Nat × Obj)), (∀ p ∈ l, s.objs p.1 = p.2) → ∀ p ∈ l, look .none l p.1 = s.objs p.1 := by
      intro l
      induction l with
      | nil => intro _ p hp; cases hp
      | cons q l ih =>
        intro hl p hp
        obtain ⟨k, v⟩ := q
        rw [look_cons]
        split
        · rename_i e; rw [e]; exact (hl (k, v) (by simp)).symm
        · rename_i e
          rcases List.mem_cons.1 hp with e2 | e2
          · subst e2; exact absurd rfl e
          · exact ih (fun p hp => hl p (by simp [hp])) p e2
    exact this OL ho p hp
  have hO2 : ∀ id, look .none OL id = .none ∨ look .none OL id = s.objs id := by
    intro id
    rcases look_of_all Obj.none s.objs OL ho id with e | ⟨e, _⟩
    · exact .inl e
    · exact .inr e.symm
  have hG : ∀ b, Good g s.objs blk w b → Good g (look .none OL) blk w b := by
    intro b hb
    refine ⟨hb.1, fun id hid => hb.2 id ?_⟩
    rcases hO2 id with e | e
    · exact absurd e hid
    · rw [← e]; exact hid
  have hlv : ∀ id, look .none OL id ≠ .none → s.objs id ≠ .none := by
    intro id hid
    rcases hO2 id with e | e
    · exact absurd e hid
    · rw [← e]; exact hid
  refine ⟨blk, h.size, h.defers, h.below, h.g0, fun t => ?_, fun id => ?_, fun i b hi hb => h.new i b (hlv i hi) hb, fun i j b hi hj => h.inj i j b (hlv i hi) (hlv j hj)⟩
  · show RV w (Good g (look .none OL) blk w) (look .none OL) blk _ (look .any L t)
    rcases look_of_all AV.any s.env L he t with e | ⟨e, hm⟩
    · rw [e]; trivial
    · rw [← e]
      exact RV.sub hG hO (h.env t) (by rw [e]; exact List.all_eq_true.1 hr _ hm)
  · show ObjOk w (Good g (look .none OL) blk w) (look .none OL) blk _ (look .none OL id)
    rcases look_of_all Obj.none s.objs OL ho id with e | ⟨e, hm⟩
    · rw [e]; trivial
    · have hob := h.objs id
      rw [e] at hob
      have hrr := List.all_eq_true.1 hro _ hm
      revert hob hrr
      generalize look .none OL id = ob
      intro hob hrr
      cases ob with
      | none => trivial
      | box cells =>
        obtain ⟨q, arr, e, e1, e2, e3, e4⟩ := hob
        exact ⟨q, arr, e, e1, e2, e3, fun j x hx => let ⟨u, hu, hru⟩ := e4 j x hx; ⟨u, hu, RV1.sub hG hO hru (List.all_eq_true.1 hrr x (List.mem_of_getElem? hx))⟩⟩
      | row k rows =>
        rcases hob with hob | ⟨q, arr, e, e1, e2, e3, e4, e5⟩
        · exact .inl hob
        · exact .inr ⟨q, arr, e, e1, e2, e3, e4, fun i r j c hr hc => let ⟨u, hu, hru⟩ := e5 i r j c hr hc; ⟨u, hu, hru.mono hG (fun _ _ _ h => h)⟩⟩

end

/-- A slice of the call's own that is nil. -/
theorem virt_rule {P : Program} {N : Nat} {c : SC} {s : St} {Q : Ex → St → Prop} (t k : Nat) (h1 : s.env t = .nil) (h2 : (s.ob t).isNone = true) (h : loopP P N c ⟨upd t (.own t k 0) s.env, upd t (.row k []) s.objs⟩ Q) : loopP P N c s Q := by
  intro g hN code hc a w blk hr
  refine h g hN code hc a w _ (?_ : Repr g _ a w (fun i => if i = t then none else blk i))
  have hv := hr.virt (d := t) (k := k) (ob_none h2)
  refine ⟨hv.size, hv.defers, hv.below, hv.g0, fun t' => ?_, hv.objs, hv.new, hv.inj⟩
  show RV _ _ _ _ _ (upd t (.own t k 0) s.env t')
  rw [upd_apply]
  split
  · rename_i e
    subst e
    have := hr.env t'
    rw [h1] at this
    exact ⟨[], by simp [upd], Nat.le_refl _, .inl ⟨by simp, rfl, this⟩⟩
  · exact hv.env t'

end Go.Proofs.Ytenfgllkjgfjpaa
