/- The abstract machine, part 18: weakest preconditions of whole bodies, loops. -/
import Derived.Test.YtenfgllkjgfjpaaMCoreH
set_option linter.all false
namespace Go.Proofs.Ytenfgllkjgfjpaa
open Go.RowKit

def lift (g : Ghost) (Q : Ex → St → Prop) : Exit → Act → World → Prop
  | .normal, a, w => ∃ s blk, Q .normal s ∧ Repr g s a w blk
  | .exit id, a, w => ∃ s blk, Q (.exit id) s ∧ Repr g s a w blk
  | .ret, a, w => ∃ s blk, Q .ret s ∧ Repr g s a w blk
  | _, _, _ => False

def loopP (P : Program) (N : Nat) (c : SC) (s : St) (Q : Ex → St → Prop) : Prop :=
  ∀ g, g.N = N → ∀ code, comp P N code = some c → ∀ a w blk, Repr g s a w blk → (Code.loop code).wp P (lift g Q) a w

def wpS (P : Program) (N : Nat) : SC → St → (Ex → St → Prop) → Prop
  | .skip, s, Q => Q .normal s
  | .reg l, s, Q => wpI P l s (Q .normal)
  | .regq l, s, Q => wpQ P l s (Q .normal)
  | .rege l, s, Q => wpE P 0 l [] s (Q .normal)
  | .seq a b, s, Q => wpS P N a s (Ex.then (fun _ s' => wpS P N b s' Q) Q)
  | .cond x a b, s, Q => condP (s.ev x) (wpS P N a s Q) (wpS P N b s Q)
  | .block id c, s, Q => wpS P N c s (Ex.inBlock id Q)
  | .loop c, s, Q => loopP P N c s Q
  | .exit id, s, Q => Q (.exit id) s
  | .ret, s, Q => Q .ret s

theorem wpS_sound {P : Program} {g : Ghost} {N : Nat} (hN : g.N = N) : ∀ {code : Code} {c : SC} {s : St} {Q : Ex → St → Prop} {a : Act} {w : World} {blk : Lay},
    comp P N code = some c → wpS P N c s Q → Repr g s a w blk → code.wp P (lift g Q) a w := by
  intro code
  induction code with
  | skip => intro c s Q a w blk hc hw h; cases hc; exact wp_skip ⟨s, blk, hw, h⟩
  | region id ops draw =>
    intro c s Q a w blk hc hw h
    simp only [comp] at hc
    split at hc
    · rename_i hd
      subst hd
      split at hc
      · rename_i l hl
        cases hc
        exact regQ_sound hN hl h hw fun s' a' w' blk' k r => ⟨s', blk', k, r⟩
      · simp only [Option.map_eq_some_iff] at hc
        obtain ⟨l, hl, rfl⟩ := hc
        exact regE_sound hN hl h hw fun s' a' w' blk' k r => ⟨s', blk', k, r⟩
    · rename_i hd
      simp only [Option.map_eq_some_iff] at hc
      obtain ⟨l, hl, rfl⟩ := hc
      have e : draw = false := by simpa using hd
      subst e
      exact wp_region_list (wpI_sound hN hl h hw fun s' blk' a' w' k r => ⟨s', blk', k, r⟩)
  | seq x y ihx ihy =>
    intro c s Q a w blk hc hw h
    simp only [comp] at hc
    split at hc
    · rename_i cx cy h1 h2
      cases hc
      refine wp_seq (Code.wp_mono ?_ (ihx h1 hw h))
      intro e a' w' hl
      cases e with
      | normal => obtain ⟨s', blk', k, r⟩ := hl; exact ihy h2 k r
      | exit id => exact hl
      | ret => exact hl
      | goto l => exact hl
      | panic ch => exact hl
      | outgrown => exact hl
    · cases hc
  | cond x t e iht ihe =>
    intro c s Q a w blk hc hw h
    simp only [comp] at hc
    split at hc
    · rename_i cx' ct ce h1 h2 h3
      cases hc
      simp only [wpS] at hw
      have hx := h.ev h1
      unfold condP at hw
      split at hw
      · rename_i v hv
        rw [hv] at hx
        refine wp_cond (t := v) hx.bool ?_
        cases v
        · exact ihe h3 (hw.2 rfl) h
        · exact iht h2 (hw.1 rfl) h
      · exact hw.elim
    · cases hc
  | block id body ih =>
    intro c s Q a w blk hc hw h
    simp only [comp, Option.map_eq_some_iff] at hc
    obtain ⟨cb, hb, rfl⟩ := hc
    refine wp_block (Code.wp_mono ?_ (ih hb hw h))
    intro e a' w' hl
    cases e with
    | normal => exact hl
    | exit id' =>
      obtain ⟨s', blk', k, r⟩ := hl
      simp only [Exit.inBlock]
      simp only [Ex.inBlock] at k
      split
      · rename_i e; rw [if_pos e] at k; exact ⟨s', blk', k, r⟩
      · rename_i e; rw [if_neg e] at k; exact ⟨s', blk', k, r⟩
    | ret => exact hl
    | goto l => exact hl
    | panic ch => exact hl
    | outgrown => exact hl
  | loop body ih =>
    intro c s Q a w blk hc hw h
    simp only [comp, Option.map_eq_some_iff] at hc
    obtain ⟨cb, hb, rfl⟩ := hc
    exact hw g hN body hb a w blk h
  | exit id => intro c s Q a w blk hc hw h; cases hc; exact wp_exit ⟨s, blk, hw, h⟩
  | ret => intro c s Q a w blk hc hw h; cases hc; exact wp_ret ⟨s, blk, hw, h⟩
  | rangeFunc f ps x y => intro c s Q a w blk hc; cases hc
  | scope b => intro c s Q a w blk hc; cases hc
  | label l => intro c s Q a w blk hc; cases hc
  | goto l => intro c s Q a w blk hc; cases hc
  | refuse wy => intro c s Q a w blk hc; cases hc

/-- Every state that s describes is described by s'. -/
def St.le (s s' : St) : Prop := ∀ (g : Ghost) (a : Act) (w : World) (blk : Lay), Repr g s a w blk → ∃ blk', Repr g s' a w blk'

theorem St.le_refl (s : St) : s.le s := fun _ _ _ blk h => ⟨blk, h⟩

/-- A loop: a family of states, a measure. -/
theorem loop_rule {P : Program} {N : Nat} {c : SC} {s : St} {Q : Ex → St → Prop} {ι : Type} (I : ι → Prop) (S : ι → St) (μ : ι → Nat) (i0 : ι) (h0 : I i0) (hs : s.le (S i0))
    (round : ∀ i, I i → wpS P N c (S i) (Ex.then (fun _ s' => ∃ j, I j ∧ μ j < μ i ∧ s'.le (S j)) Q)) : loopP P N c s Q := by
  intro g hN code hc a w blk h b k cs
  have key : ∀ n i, μ i = n → I i → ∀ a w blk, Repr g (S i) a w blk →
      ∃ e a' w', lift g Q e a' w' ∧ Arrives P (lone (b.at a (.code code :: .inLoop code :: k)) cs w) b k cs e a' w' := by
    intro n
    induction n using Nat.strongRecOn with
    | _ n ih =>
      intro i hn hI a w blk h
      obtain ⟨e, a1, w1, hq, harr⟩ := wpS_sound hN hc (round i hI) h b (.inLoop code :: k) cs
      cases e with
      | normal =>
        obtain ⟨s1, blk1, ⟨j, hj, hlt, hle⟩, r1⟩ := hq
        obtain ⟨blk2, r2⟩ := hle g a1 w1 blk1 r1
        obtain ⟨e2, a2, w2, hq2, harr2⟩ := ih (μ j) (hn ▸ hlt) j rfl hj a1 w1 blk2 r2
        exact ⟨e2, a2, w2, hq2, .of_steps (Steps.trans harr (.one step_inLoop)) harr2⟩
      | exit id => exact ⟨.exit id, a1, w1, hq, .pass (x := .inLoop code) rfl (fun _ _ => .inl (by simp)) harr⟩
      | ret => exact ⟨.ret, a1, w1, hq, .pass (x := .inLoop code) rfl (fun _ _ => .inl (by simp)) harr⟩
      | goto l => exact hq.elim
      | panic ch => exact hq.elim
      | outgrown => exact hq.elim
  obtain ⟨blk1, h1⟩ := hs g a w blk h
  obtain ⟨e, a', w', hq, harr⟩ := key _ i0 rfl h0 a w blk1 h1
  exact ⟨e, a', w', hq, .of_steps (.one step_loop) harr⟩

/-! Forgetting: fewer slots, fewer objects. -/

def AV.ref0 (ids : List Nat) : AV → Bool
  | .box i _ | .row i _ _ _ | .own i _ _ | .cut i _ _ _ => ids.contains i
  | .sub _ _ _ _ _ _ | .srow _ _ _ _ _ _ _ => false
  | _ => true
def AV.refs1 (ids : List Nat) : AV → Bool
  | .agg l | .fn _ l => l.all (AV.ref0 ids)
  | .tup _ => false
  | x => x.ref0 ids
def Obj.refs1 (ids : List Nat) : Obj → Bool
  | .box l => l.all (AV.ref0 ids)
  | _ => true
/-- As much is said of the object, or less. -/
def Obj.leO : Obj → Obj → Prop
  | .row k rows, .tr k' _ rows' => k = k' ∧ rows = rows'
  | .tr k _ rows, .tr k' _ rows' => k = k' ∧ rows = rows'
  | o, o' => o = o'

theorem Obj.leO_dims {o o' : Obj} (h : o.leO o') : o'.dims = o.dims := by
  unfold Obj.leO at h
  split at h
  · obtain ⟨rfl, rfl⟩ := h; rfl
  · obtain ⟨rfl, rfl⟩ := h; rfl
  · rw [h]
theorem Obj.leO_cases {o o' : Obj} (h : o.leO o') : o = o' ∨ (∃ k rows v, o = .row k rows ∧ o' = .tr k v rows) ∨ (∃ k v v' rows, o = .tr k v rows ∧ o' = .tr k v' rows) := by
  cases o <;> cases o' <;> first
    | exact .inl h
    | (obtain ⟨rfl, rfl⟩ := h; exact .inr (.inl ⟨_, _, _, rfl, rfl⟩))
    | (obtain ⟨rfl, rfl⟩ := h; exact .inr (.inr ⟨_, _, _, _, rfl, rfl⟩))
theorem Obj.leO_box {l : List AV} {o' : Obj} (h : (Obj.box l).leO o') : o' = .box l := by
  rcases Obj.leO_cases h with h | ⟨_, _, _, h, _⟩ | ⟨_, _, _, _, h, _⟩
  · exact h.symm
  · cases h
  · cases h
theorem Obj.leO_none {o o' : Obj} (h : o.leO o') (hn : o' ≠ .none) : o ≠ .none := by
  unfold Obj.leO at h
  split at h
  · simp
  · simp
  · rw [h]; exact hn

section
variable {g : Ghost} {s s' : St} {a : Act} {w : World} {blk : Nat → Option Nat}

theorem RV1.sub {G G' : Nat → Prop} {O O' : Nat → Obj} {ids : List Nat} {v : Value} {x : AV} (hG : ∀ b, G b → G' b) (hO : ∀ id, id ∈ ids → (O id).leO (O' id)) (h : RV1 w G O blk v x) (hr : x.ref0 ids = true) : RV1 w G' O' blk v x := by
  cases x with
  | any => trivial
  | und => exact h
  | c x => exact Rd.mono h hG (fun _ _ _ h => h)
  | nil k => exact h
  | clip k rows => obtain ⟨a, n, e, hr⟩ := h; exact ⟨a, n, e, hr.mono hG (fun _ _ _ h => h)⟩
  | box id off =>
    obtain ⟨b, cells, ho, r⟩ := h
    have := hO id (by simpa [AV.ref0] using hr)
    rw [ho] at this
    exact ⟨b, cells, Obj.leO_box this, r⟩
  | row id k i off =>
    obtain ⟨b, m, ho, r⟩ := h
    exact ⟨b, m, by rw [Obj.leO_dims (hO id (by simpa [AV.ref0] using hr))]; exact ho, r⟩
  | elt cs =>
    obtain ⟨ad, e, hc⟩ := h
    exact ⟨ad, e, fun j c hj => let ⟨hg, u, hu, hr⟩ := hc j c hj; ⟨hG _ hg, u, hu, hr.mono hG (fun _ _ _ h => h)⟩⟩
  | own id k n =>
    obtain ⟨m, ho, r⟩ := h
    exact ⟨m, by rw [Obj.leO_dims (hO id (by simpa [AV.ref0] using hr))]; exact ho, r⟩
  | cut id k lo n =>
    obtain ⟨m, A, c, ho, r⟩ := h
    exact ⟨m, A, c, by rw [Obj.leO_dims (hO id (by simpa [AV.ref0] using hr))]; exact ho, r⟩
  | sub id ver i j k n => simp [AV.ref0] at hr
  | srow id ver i j k i' off => simp [AV.ref0] at hr
  | agg l => exact h
  | tup l => exact h
  | fn f l => exact h

theorem RV.sub {G G' : Nat → Prop} {O O' : Nat → Obj} {ids : List Nat} {v : Value} {x : AV} (hG : ∀ b, G b → G' b) (hO : ∀ id, id ∈ ids → (O id).leO (O' id)) (h : RV w G O blk v x) (hr : x.refs1 ids = true) : RV w G' O' blk v x := by
  cases x
  case tup l => simp [AV.refs1] at hr
  case agg l =>
    obtain ⟨arr, e, hs, hx⟩ := h
    refine ⟨arr, e, hs, fun j x hj => ?_⟩
    obtain ⟨u, hu, hru⟩ := hx j x hj
    exact ⟨u, hu, RV1.sub hG hO hru (List.all_eq_true.1 hr x (List.mem_of_getElem? hj))⟩
  case fn f l =>
    obtain ⟨arr, e, hs, hx⟩ := h
    refine ⟨arr, e, hs, fun j x hj => ?_⟩
    obtain ⟨u, hu, hru⟩ := hx j x hj
    exact ⟨u, hu, RV1.sub hG hO hru (List.all_eq_true.1 hr x (List.mem_of_getElem? hj))⟩
  all_goals (simp only [RV, RV2] at h ⊢; exact RV1.sub hG hO h (by simpa [AV.refs1] using hr))

theorem look_of_all {α : Type} (d : α) (f : Nat → α) : ∀ (l : List (Nat × α)), (∀ p ∈ l, f p.1 = p.2) → ∀ t, look d l t = d ∨ (f t = look d l t ∧ (t, look d l t) ∈ l)
  | [], _, _ => .inl rfl
  | (k, v) :: l, h, t => by
    rw [look_cons]
    split
    · rename_i e; subst e; exact .inr ⟨h (_, v) (by simp), by simp⟩
    · rcases look_of_all d f l (fun p hp => h p (by simp [hp])) t with e | ⟨e, hm⟩
      · exact .inl e
      · exact .inr ⟨e, by simp [hm]⟩
theorem look_of_allR {α : Type} (d : α) (f : Nat → α) (R : α → α → Prop) : ∀ (l : List (Nat × α)), (∀ p ∈ l, R (f p.1) p.2) → ∀ t, look d l t = d ∨ (R (f t) (look d l t) ∧ (t, look d l t) ∈ l)
  | [], _, _ => .inl rfl
  | (k, v) :: l, h, t => by
    rw [look_cons]
    split
    · rename_i e; subst e; exact .inr ⟨h (_, v) (by simp), by simp⟩
    · rcases look_of_allR d f R l (fun p hp => h p (by simp [hp])) t with e | ⟨e, hm⟩
      · exact .inl e
      · exact .inr ⟨e, by simp [hm]⟩

/-- A state given by its rows. -/
def stOf (L : List (Nat × AV)) (O : List (Nat × Obj)) : St := ⟨look .any L, look .none O⟩

theorem le_of {L : List (Nat × AV)} {OL : List (Nat × Obj)} (he : ∀ p ∈ L, s.env p.1 = p.2) (ho : ∀ p ∈ OL, (s.objs p.1).leO p.2)
    (hr : (L.all fun p => p.2.refs1 (OL.map (·.1))) = true) (hro : (OL.all fun p => p.2.refs1 (OL.map (·.1))) = true) : s.le (stOf L OL) := by
  intro g a w blk h
  have hO2 : ∀ id, look .none OL id = .none ∨ ((s.objs id).leO (look .none OL id) ∧ (id, look .none OL id) ∈ OL) := look_of_allR Obj.none s.objs Obj.leO OL ho
  have hO : ∀ id, id ∈ OL.map (·.1) → (s.objs id).leO (look .none OL id) := by
    intro id hid
    obtain ⟨p, hp, rfl⟩ := List.mem_map.1 hid
    have : ∀ (l : List (Nat × Obj)), (∀ p ∈ l, (s.objs p.1).leO p.2) → ∀ p ∈ l, (s.objs p.1).leO (look .none l p.1) := by
      intro l
      induction l with
      | nil => intro _ p hp; cases hp
      | cons q l ih =>
        intro hl p hp
        obtain ⟨k, v⟩ := q
        rw [look_cons]
        split
        · rename_i e; rw [e]; exact hl (k, v) (by simp)
        · rename_i e
          rcases List.mem_cons.1 hp with e2 | e2
          · subst e2; exact absurd rfl e
          · exact ih (fun p hp => hl p (by simp [hp])) p e2
    exact this OL ho p hp
  have hlv : ∀ id, look .none OL id ≠ .none → s.objs id ≠ .none := by
    intro id hid
    rcases hO2 id with e | ⟨e, _⟩
    · exact absurd e hid
    · exact Obj.leO_none e hid
  have hG : ∀ b, Good g s.objs blk w b → Good g (look .none OL) blk w b := fun b hb => ⟨hb.1, fun id hid => hb.2 id (hlv id hid)⟩
  refine ⟨blk, h.size, h.small, h.defers, h.below, h.g0, h.f0, h.g0f, fun t => ?_, fun id => ?_, fun i b hi hb => h.new i b (hlv i hi) hb, fun i j b hi hj => h.inj i j b (hlv i hi) (hlv j hj), fun i b hi => h.apart i b (hlv i hi)⟩
  · show RV w (Good g (look .none OL) blk w) (look .none OL) blk _ (look .any L t)
    rcases look_of_all AV.any s.env L he t with e | ⟨e, hm⟩
    · rw [e]; trivial
    · rw [← e]
      exact RV.sub hG hO (h.env t) (by rw [e]; exact List.all_eq_true.1 hr _ hm)
  · show ObjOk w (Good g (look .none OL) blk w) (look .none OL) blk _ _ (look .none OL id)
    rcases hO2 id with e | ⟨e, hm⟩
    · rw [e]; trivial
    · have hob := h.objs id
      have hrr := List.all_eq_true.1 hro _ hm
      revert e hob hrr
      generalize look .none OL id = ob
      intro e hob hrr
      rcases Obj.leO_cases e with e | ⟨k, rows, v', heq, rfl⟩ | ⟨k, v, v', rows, heq, rfl⟩
      · rw [e] at hob
        cases ob with
        | none => trivial
        | box cells =>
          obtain ⟨q, arr, e, e1, e2, e3, e4⟩ := hob
          exact ⟨q, arr, e, e1, e2, e3, fun j x hx => let ⟨u, hu, hru⟩ := e4 j x hx; ⟨u, hu, RV1.sub hG hO hru (List.all_eq_true.1 hrr x (List.mem_of_getElem? hx))⟩⟩
        | row k rows =>
          rcases hob with hob | ⟨q, arr, e, e1, e2, e3, e4, e5⟩
          · exact .inl hob
          · exact .inr ⟨q, arr, e, e1, e2, e3, e4, fun i r j c hr hc => let ⟨u, hu, hru⟩ := e5 i r j c hr hc; ⟨u, hu, hru.mono hG (fun _ _ _ h => h)⟩⟩
        | tr k v rows =>
          rcases hob with hob | ⟨q, arr, e, e1, e2, e3, e4, e5⟩
          · exact .inl hob
          · exact .inr ⟨q, arr, e, e1, e2, e3, e4, e5.mono hG (fun _ _ _ h => h) (fun _ h => h) (fun _ _ => rfl)⟩

      · rw [heq] at hob
        rcases hob with hob | ⟨q, arr, e, e1, e2, e3, e4, e5⟩
        · exact .inl hob
        · refine .inr ⟨q, arr, e, e1, e2, e3, e4, fun i j => (arr[i * k + j]?).getD undef, fun _ _ => noF, fun _ _ _ h => h.elim, fun _ _ _ _ _ h => h.elim, fun i r hr j c hc => ?_, fun i r hr j c hc => ?_⟩
          · obtain ⟨u, hu, _⟩ := e5 i r j c hr hc
            dsimp only; rw [hu]; rfl
          · obtain ⟨u, hu, hru⟩ := e5 i r j c hr hc
            dsimp only; rw [hu]
            exact .sh (hru.mono hG (fun _ _ _ h => h))
      · rw [heq] at hob
        rcases hob with hob | ⟨q, arr, e, e1, e2, e3, e4, e5⟩
        · exact .inl hob
        · exact .inr ⟨q, arr, e, e1, e2, e3, e4, e5.mono hG (fun _ _ _ h => h) (fun _ h => h) (fun _ _ => rfl)⟩

end

/-- A slice of the call's own that is nil. -/
theorem virt_rule' {P : Program} {N : Nat} {c : SC} {s : St} {Q : Ex → St → Prop} (fl : Bool) (t k : Nat) {k0 : Nat} (ht : t < slotM) (h1 : s.env t = .nil k0) (h2 : (s.ob t).isNone = true) (h : loopP P N c ⟨upd t (.own t k 0) s.env, upd t (mkO fl k []) s.objs⟩ Q) : loopP P N c s Q := by
  intro g hN code hc a w blk hr
  refine h g hN code hc a w _ (?_ : Repr g _ a w (blk.upd t none noF))
  have hv := hr.virt (d := t) (k := k) fl (ob_none h2)
  refine ⟨hv.size, hv.small, hv.defers, hv.below, hv.g0, hv.f0, hv.g0f, fun t' => ?_, hv.objs, hv.new, hv.inj, hv.apart⟩
  show RV _ _ _ _ _ (upd t (.own t k 0) s.env t')
  rw [upd_apply]
  split
  · rename_i e
    subst e
    have := hr.env t'
    rw [h1] at this
    exact ⟨0, by simp [upd, mkO_dims], Nat.le_refl _, .inl ⟨by show (blk.upd _ _ _).root t' = _; rw [Lay.upd_root, if_pos rfl], rfl, none, this⟩⟩
  · exact hv.env t'
theorem virt_rule {P : Program} {N : Nat} {c : SC} {s : St} {Q : Ex → St → Prop} (t k : Nat) {k0 : Nat} (h1 : s.env t = .nil k0) (h2 : (s.ob t).isNone = true) (ht : t < slotM) (h : loopP P N c ⟨upd t (.own t k 0) s.env, upd t (.row k []) s.objs⟩ Q) : loopP P N c s Q :=
  virt_rule' true t k ht h1 h2 h
theorem virt_tree {P : Program} {N : Nat} {c : SC} {s : St} {Q : Ex → St → Prop} (t k : Nat) {k0 : Nat} (h1 : s.env t = .nil k0) (h2 : (s.ob t).isNone = true) (ht : t < slotM) (h : loopP P N c ⟨upd t (.own t k 0) s.env, upd t (.tr k 0 []) s.objs⟩ Q) : loopP P N c s Q :=
  virt_rule' false t k ht h1 h2 h

end Go.Proofs.Ytenfgllkjgfjpaa
