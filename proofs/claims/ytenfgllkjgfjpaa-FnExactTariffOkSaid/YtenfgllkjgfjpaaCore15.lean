/- The abstract machine, part 15: contracts of functions on plain data; how a call uses one. -/
import Derived.Test.YtenfgllkjgfjpaaCore14
set_option linter.all false
namespace Go.Proofs.Ytenfgllkjgfjpaa
open Go.RowKit

section
variable {g : Ghost} {s s' : St} {a : Act} {w : World} {blk : Nat → Option Nat}
/-- Behind a call: nothing that was there has turned. -/
theorem Repr.call (h : Repr g s a w blk) {w' : World} (hb : Below w.heap.size w w') : Repr g s a w' blk := by
  have hge := h.below.size
  have K : Keeps w w' (Good g s.objs blk w) (Good g s.objs blk w') s.objs s.objs blk blk := by
    refine ⟨fun b0 hg => ⟨?_, hg.2⟩, fun ad u hg hc => ?_, fun _ _ => ⟨Obj.like_refl _, rfl⟩, fun id hid b arr e h1 h2 => ⟨arr, ?_, rfl⟩⟩
    · rcases hg.1 with h1 | h1
      · exact .inl h1
      · exact .inr ⟨h1.1, by have := hb.size; omega⟩
    · have hlt : ad.block < w.heap.size := by
        rcases hg.1 with h1 | h1
        · have := h.g0 _ h1; omega
        · exact h1.2
      rw [hb.cell hlt]; exact hc
    · rw [hb.block b (h.new id b hid h1).2]; exact h2
  have hbelow : Below g.w0.heap.size g.w0 w' := h.below.trans (hb.mono hge)
  refine ⟨h.size, h.defers, hbelow, h.g0, fun t => (h.env t).keep K, fun i => (h.objs i).keep K fun q hq hne => hb.block q (h.new i q hne hq).2, fun i b hi hb' => ?_, h.inj⟩
  have := h.new i b hi hb'
  exact ⟨this.1, by have := hb.size; omega⟩
end

def noO : Nat → Obj := fun _ => .none
def noB : Nat → Option Nat := fun _ => none

/-- The function f, called on arguments that read as args, returns a value that reads as res; nothing that was there has turned. -/
def PureF (P : Program) (f : Nat) (args : List AV) (res : AV) : Prop :=
  ∀ (w : World) (G : Nat → Prop), (∀ b, G b → b < w.heap.size) → ∀ vs : Array Value, vs.size = args.length →
    (∀ (j : Nat) (x : AV), args[j]? = some x → ∃ u : Value, vs[j]? = some u ∧ RV w G noO noB u x) →
    Calls P f vs w fun e w' => ∃ v, e = .returned v ∧ Below w.heap.size w w' ∧ RV w' (fun b => G b ∨ (w.heap.size ≤ b ∧ b < w'.heap.size)) noO noB v res

def out1 (s : St) (x y : AV) : Prop :=
  match x with
  | .c z => y = .c z
  | .clip k rows => y = .c (.sl k rows)
  | .nil => ∃ k, y = .c (.sl k [])
  | .own id k n => match s.ob id with
    | .row _ rows => y = .c (.sl k (rows.take n))
    | _ => False
  | _ => False
def outs1 (s : St) : List AV → List AV → Prop
  | [], [] => True
  | x :: l, y :: l' => out1 s x y ∧ outs1 s l l'
  | _, _ => False
def out2 (s : St) (x y : AV) : Prop :=
  match x with
  | .agg l => match y with
    | .agg l' => outs1 s l l'
    | _ => False
  | x => out1 s x y
def outs2 (s : St) : List AV → List AV → Prop
  | [], [] => True
  | x :: l, y :: l' => out2 s x y ∧ outs2 s l l'
  | _, _ => False

def AV.data1 : AV → Bool
  | .c _ | .clip _ _ | .nil => true
  | _ => false
def AV.isData : AV → Bool
  | .agg l => l.all AV.data1
  | x => x.data1
def AV.scalar1 : AV → Bool
  | .c (.sl _ _) => false
  | .c _ => true
  | _ => false
def AV.scalar2 : AV → Bool
  | .agg l => l.all AV.scalar1
  | x => x.scalar1
def AV.scalar : AV → Bool
  | .tup l => l.all AV.scalar2
  | x => x.scalar2

def AV.wf1 : AV → Prop
  | .c z => z.WF
  | _ => True
def AV.wf : AV → Prop
  | .agg l => ∀ y, y ∈ l → y.wf1
  | x => x.wf1
def argsWF : List AV → Prop
  | [] => True
  | x :: l => x.wf ∧ argsWF l

section
variable {g : Ghost} {s : St} {a : Act} {w : World} {blk : Nat → Option Nat} {v : Value} {x y : AV}

/-- All blocks that the call's arguments read, and all that are new. -/
def All (g : Ghost) (w : World) (b : Nat) : Prop := g.G0 b ∨ (g.w0.heap.size ≤ b ∧ b < w.heap.size)

theorem good_all (b : Nat) (h : Good g s.objs blk w b) : All g w b := h.1

theorem rv1_data {G G' : Nat → Prop} {O O' : Nat → Obj} {blk' : Nat → Option Nat} (hG : ∀ b, G b → G' b) (hx : x.data1 = true) (h : RV1 w G O blk v x) : RV1 w G' O' blk' v x := by
  cases x <;> simp [AV.data1] at hx
  · exact Rd.mono h hG (fun _ _ _ h => h)
  · exact h
  · obtain ⟨a, n, e, hr⟩ := h; exact ⟨a, n, e, hr.mono hG (fun _ _ _ h => h)⟩

theorem out1_ok (h : Repr g s a w blk) {G' : Nat → Prop} (hG : ∀ b, All g w b → G' b) (hx : RV1 w (Good g s.objs blk w) s.objs blk v x) (ho : out1 s x y) : RV1 w G' noO noB v y := by
  unfold out1 at ho
  split at ho
  · subst ho; exact Rd.mono hx (fun b hb => hG b (good_all b hb)) (fun _ _ _ h => h)
  · subst ho; obtain ⟨_, _, _, hr⟩ := hx; exact Rd.mono hr (fun b hb => hG b (good_all b hb)) (fun _ _ _ h => h)
  · obtain ⟨k, rfl⟩ := ho
    cases hx
    exact Rd.sl (fun _ _ => default) rfl (Nat.le_refl _) (by unfold maxLen; omega) (by simp) (by simp) (by simp) (by simp)
  · rename_i id k n
    split at ho
    · rename_i k2 rows hO
      subst ho
      obtain ⟨rows', hO', hn, hval⟩ := hx
      have e3 : k2 = k ∧ rows = rows' := by
        have : s.ob id = .row k rows' := hO'
        rw [hO] at this; cases this; exact ⟨rfl, rfl⟩
      obtain ⟨rfl, rfl⟩ := e3
      rcases hval with ⟨hb, rfl, rfl⟩ | ⟨b, cap, arr, e, hb, rfl, h1, h2, h3, h4⟩
      · rw [List.take_zero]
        exact Rd.sl (fun _ _ => default) rfl (Nat.le_refl _) (by unfold maxLen; omega) (by simp) (by simp) (by simp) (by simp)
      · obtain ⟨arr2, e2, r1, r2, r3, r4⟩ := h.row hO hb
        rw [h3] at r1; cases r1
        have hnew := h.new id b (by rw [show s.objs id = _ from hO]; simp) hb
        have get : ∀ (i : Nat) (r : List C), (rows.take n)[i]? = some r → rows[i]? = some r := by
          intro i r hr
          rw [List.getElem?_take] at hr
          split at hr
          · exact hr
          · cases hr
        refine Rd.sl (fun i j => (arr[i * k2 + j]?).getD default) (by simp; omega) h1 h2 (fun r hr => r3 r (List.mem_of_mem_take hr)) (fun _ => rfl) (fun i r hr j c hc => ?_) (fun i r hr j c hc => ?_)
        · obtain ⟨u, hu, hru⟩ := r4 i r j c (get i r hr) hc
          exact ⟨_, rfl, hG b (.inr hnew), by rw [add_lit, Nat.zero_add, cell_of w h3, hu]; rfl⟩
        · obtain ⟨u, hu, hru⟩ := r4 i r j c (get i r hr) hc
          rw [hu]
          exact hru.mono (fun b hb => hG b (good_all b hb)) (fun _ _ _ h => h)
    · exact ho.elim
  · exact ho.elim

theorem outs1_get : ∀ {l l' : List AV}, outs1 s l l' → l'.length = l.length ∧ ∀ (j : Nat) (y : AV), l'[j]? = some y → ∃ x, l[j]? = some x ∧ out1 s x y
  | [], [], _ => ⟨rfl, fun j y hj => by simp at hj⟩
  | x :: l, y :: l', h => by
    obtain ⟨h1, h2⟩ := outs1_get h.2
    refine ⟨by simp [h1], fun j z hj => ?_⟩
    cases j with
    | zero => simp at hj; subst hj; exact ⟨x, rfl, h.1⟩
    | succ j => exact h2 j z (by simpa using hj)
theorem outs2_get : ∀ {l l' : List AV}, outs2 s l l' → l'.length = l.length ∧ ∀ (j : Nat) (y : AV), l'[j]? = some y → ∃ x, l[j]? = some x ∧ out2 s x y
  | [], [], _ => ⟨rfl, fun j y hj => by simp at hj⟩
  | x :: l, y :: l', h => by
    obtain ⟨h1, h2⟩ := outs2_get h.2
    refine ⟨by simp [h1], fun j z hj => ?_⟩
    cases j with
    | zero => simp at hj; subst hj; exact ⟨x, rfl, h.1⟩
    | succ j => exact h2 j z (by simpa using hj)

theorem rv_of1 {G : Nat → Prop} {O : Nat → Obj} (h : RV1 w G O blk v x) : RV w G O blk v x := by
  cases x <;> first | exact h | exact h.elim
theorem rv2_of1 {G : Nat → Prop} {O : Nat → Obj} (h : RV1 w G O blk v x) : RV2 w G O blk v x := by
  cases x <;> first | exact h | exact h.elim
theorem rv_of2 {G : Nat → Prop} {O : Nat → Obj} (h : RV2 w G O blk v x) : RV w G O blk v x := by
  cases x <;> first | exact h | exact h.elim

theorem out2_ok (h : Repr g s a w blk) {G' : Nat → Prop} (hG : ∀ b, All g w b → G' b) (hx : RVs g s w blk v x) (ho : out2 s x y) : RV2 w G' noO noB v y := by
  unfold out2 at ho
  split at ho
  · rename_i l
    split at ho
    · rename_i l'
      obtain ⟨arr, e, hs, hl⟩ := hx
      obtain ⟨h1, h2⟩ := outs1_get ho
      refine ⟨arr, e, by omega, fun j z hj => ?_⟩
      obtain ⟨x, hx, hxy⟩ := h2 j z hj
      obtain ⟨u, hu, hru⟩ := hl j x hx
      exact ⟨u, hu, out1_ok h hG hru hxy⟩
    · exact ho.elim
  · refine rv2_of1 (out1_ok h hG ?_ ho)
    cases x <;> first | exact hx | exact ho.elim

theorem data_ok {G' : Nat → Prop} (hG : ∀ b, Good g s.objs blk w b → G' b) (hx : RVs g s w blk v x) (hd : x.isData = true) (ho : out2 s x y) : RV w G' noO noB v y := by
  have one : ∀ {v : Value} {x y : AV}, x.data1 = true → RV1 w (Good g s.objs blk w) s.objs blk v x → out1 s x y → RV1 w G' noO noB v y := by
    intro v x y hd hx ho
    have := rv1_data (O' := noO) (blk' := noB) hG hd hx
    cases x <;> simp [AV.data1] at hd
    · cases ho; exact this
    · obtain ⟨k, rfl⟩ := ho
      cases hx
      exact Rd.sl (fun _ _ => default) rfl (Nat.le_refl _) (by unfold maxLen; omega) (by simp) (by simp) (by simp) (by simp)
    · cases ho; obtain ⟨_, _, _, hr⟩ := this; exact hr
  cases x
  case agg l =>
    unfold out2 at ho
    simp only at ho
    split at ho
    · rename_i l'
      obtain ⟨arr, e, hs, hl⟩ := hx
      obtain ⟨h1, h2⟩ := outs1_get ho
      refine ⟨arr, e, by omega, fun j z hj => ?_⟩
      obtain ⟨x, hx, hxy⟩ := h2 j z hj
      obtain ⟨u, hu, hru⟩ := hl j x hx
      exact ⟨u, hu, one (List.all_eq_true.1 hd x (List.mem_of_getElem? hx)) hru hxy⟩
    · exact ho.elim
  case c z =>
    have ho' : out1 s (.c z) y := ho
    exact rv_of1 (one (x := .c z) rfl (RVs.one1 hx rfl) ho')
  case nil =>
    have ho' : out1 s .nil y := ho
    exact rv_of1 (one (x := .nil) rfl (RVs.one1 hx rfl) ho')
  case clip k rows =>
    have ho' : out1 s (.clip k rows) y := ho
    exact rv_of1 (one (x := .clip k rows) rfl (RVs.one1 hx rfl) ho')
  all_goals exact absurd hd (by simp [AV.isData, AV.data1])

/-- Data read without objects read so beside any. -/
theorem rv1_wide {G G' : Nat → Prop} {O : Nat → Obj} (hG : ∀ b, G b → G' b) (h : RV1 w G noO noB v x) : RV1 w G' O blk v x := by
  cases x with
  | any => trivial
  | und => exact h
  | c x => exact Rd.mono h hG (fun _ _ _ h => h)
  | nil => exact h
  | clip k rows => obtain ⟨a, n, e, hr⟩ := h; exact ⟨a, n, e, hr.mono hG (fun _ _ _ h => h)⟩
  | box id off => obtain ⟨b, cells, ho, r⟩ := h; cases ho
  | row id k i off => obtain ⟨b, cells, ho, r⟩ := h; cases ho
  | elt cs => obtain ⟨ad, e, hc⟩ := h; exact ⟨ad, e, fun j c hj => let ⟨hg, u, hu, hr⟩ := hc j c hj; ⟨hG _ hg, u, hu, hr.mono hG (fun _ _ _ h => h)⟩⟩
  | own id k n => obtain ⟨rows, ho, r⟩ := h; cases ho
  | agg l => exact h
  | tup l => exact h
theorem rv2_wide {G G' : Nat → Prop} {O : Nat → Obj} (hG : ∀ b, G b → G' b) (h : RV2 w G noO noB v x) : RV2 w G' O blk v x := by
  cases x
  case agg l => obtain ⟨arr, e, hs, hl⟩ := h; exact ⟨arr, e, hs, fun j x hj => let ⟨u, hu, hr⟩ := hl j x hj; ⟨u, hu, rv1_wide hG hr⟩⟩
  all_goals (simp only [RV2] at h ⊢; exact rv1_wide hG h)
theorem rv_wide {G G' : Nat → Prop} {O : Nat → Obj} (hG : ∀ b, G b → G' b) (h : RV w G noO noB v x) : RV w G' O blk v x := by
  cases x
  case tup l => obtain ⟨arr, e, hs, hl⟩ := h; exact ⟨arr, e, hs, fun j x hj => let ⟨u, hu, hr⟩ := hl j x hj; ⟨u, hu, rv2_wide hG hr⟩⟩
  all_goals (simp only [RV] at h ⊢; exact rv2_wide hG h)

/-- Scalars read so whatever the blocks. -/
theorem rv1_scalar {G G' : Nat → Prop} {O : Nat → Obj} (hx : x.scalar1 = true) (h : RV1 w G noO noB v x) : RV1 w G' O blk v x := by
  cases x <;> simp [AV.scalar1] at hx
  rename_i c
  have hr : Rd w G v c := h
  cases c <;> simp at hx <;> cases hr
  · exact Rd.i ‹_›
  · exact Rd.b
  · exact Rd.u ‹_›
  · exact Rd.s ‹_›
theorem rv2_scalar {G G' : Nat → Prop} {O : Nat → Obj} (hx : x.scalar2 = true) (h : RV2 w G noO noB v x) : RV2 w G' O blk v x := by
  cases x
  case agg l => obtain ⟨arr, e, hs, hl⟩ := h; exact ⟨arr, e, hs, fun j x hj => let ⟨u, hu, hr⟩ := hl j x hj; ⟨u, hu, rv1_scalar (List.all_eq_true.1 hx x (List.mem_of_getElem? hj)) hr⟩⟩
  all_goals (simp only [RV2] at h ⊢; exact rv1_scalar hx h)
theorem rv_scalar {G G' : Nat → Prop} {O : Nat → Obj} (hx : x.scalar = true) (h : RV w G noO noB v x) : RV w G' O blk v x := by
  cases x
  case tup l => obtain ⟨arr, e, hs, hl⟩ := h; exact ⟨arr, e, hs, fun j x hj => let ⟨u, hu, hr⟩ := hl j x hj; ⟨u, hu, rv2_scalar (List.all_eq_true.1 hx x (List.mem_of_getElem? hj)) hr⟩⟩
  all_goals (simp only [RV] at h ⊢; exact rv2_scalar hx h)
end

section
variable {P : Program} {f : Nat} {s : St} {d : Option Nat} {avs args : List AV} {res : AV} {K : St → Prop}

/-- A call whose result holds no slices: slices of the call's own may be lent to it. -/
theorem call_lend (hp : PureF P f args res) (ho : outs2 s avs args) (hs : res.scalar = true) (hK : K (s.put d res)) : callP P f avs d s K := by
  intro g a w blk h hd vs hvs hv
  obtain ⟨h1, h2⟩ := outs2_get ho
  refine (hp w (All g w) (fun b hb => ?_) vs (by omega) (fun j y hj => ?_)).mono ?_
  · rcases hb with e | e
    · have := h.g0 b e; have := h.below.size; omega
    · exact e.2
  · obtain ⟨x, hx, hxy⟩ := h2 j y hj
    obtain ⟨u, hu, hru⟩ := hv j x hx
    exact ⟨u, hu, rv_of2 (out2_ok h (fun _ h => h) hru hxy)⟩
  · rintro e w' ⟨v, rfl, hb, hr⟩
    exact ⟨v, rfl, _, blk, hK, (h.call hb).put hd (rv_scalar hs hr)⟩

/-- A call whose arguments are data. -/
theorem call_pure (hp : PureF P f args res) (ho : outs2 s avs args) (hdat : avs.all AV.isData = true) (hK : K (s.put d res)) : callP P f avs d s K := by
  intro g a w blk h hd vs hvs hv
  obtain ⟨h1, h2⟩ := outs2_get ho
  refine (hp w (Good g s.objs blk w) (fun b hb => ?_) vs (by omega) (fun j y hj => ?_)).mono ?_
  · rcases hb.1 with e | e
    · have := h.g0 b e; have := h.below.size; omega
    · exact e.2
  · obtain ⟨x, hx, hxy⟩ := h2 j y hj
    obtain ⟨u, hu, hru⟩ := hv j x hx
    exact ⟨u, hu, data_ok (fun _ h => h) hru (List.all_eq_true.1 hdat x (List.mem_of_getElem? hx)) hxy⟩
  · rintro e w' ⟨v, rfl, hb, hr⟩
    have h' := h.call hb
    refine ⟨v, rfl, _, blk, hK, h'.put hd (rv_wide (fun b hb' => ?_) hr)⟩
    rcases hb' with hg | ⟨e1, e2⟩
    · refine ⟨?_, hg.2⟩
      rcases hg.1 with e | e
      · exact .inl e
      · exact .inr ⟨e.1, by have := hb.size; omega⟩
    · refine ⟨.inr ⟨by have := h.below.size; omega, e2⟩, fun id hid e => ?_⟩
      have := (h.new id b hid e).2
      omega
end


end Go.Proofs.Ytenfgllkjgfjpaa
