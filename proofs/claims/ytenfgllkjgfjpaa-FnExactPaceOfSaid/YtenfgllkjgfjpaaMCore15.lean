/- The abstract machine, part 15: contracts of functions on plain data; how a call uses one. -/
import Derived.Test.YtenfgllkjgfjpaaMCore14
set_option linter.all false
namespace Go.Proofs.Ytenfgllkjgfjpaa
open Go.RowKit

section
variable {g : Ghost} {s s' : St} {a : Act} {w : World} {blk : Lay}
/-- Behind a call: nothing that was there has turned. -/
theorem Repr.call (h : Repr g s a w blk) {w' : World} (hb : Below w.heap.size w w') : Repr g s a w' blk := by
  have := h.turn [] (fun _ => False) (objs' := s.objs) (w' := w') (L' := blk) (X := noF) (.of_below _ hb) (fun _ hq => hq.elim) (fun i _ => ⟨by simp [Obj.kills_nil], rfl, rfl⟩) (fun _ _ h => h.elim) (fun _ _ _ h => h.elim) (fun _ _ h => h.elim) (fun _ h => h.elim) (fun _ _ _ _ h => h.elim) (fun _ _ _ h => h.elim)
  exact this
end

def noO : Nat → Obj := fun _ => .none
def noB : Nat → Option Nat := fun _ => none

/-- The function f, called on arguments that read as args, returns a value that reads as res; nothing that was there has turned. -/
def PureF (P : Program) (f : Nat) (args : List AV) (res : AV) : Prop :=
  ∀ (w : World) (G : Nat → Prop), (∀ b, G b → b < w.heap.size) → ∀ vs : Array Value, vs.size = args.length →
    (∀ (j : Nat) (x : AV), args[j]? = some x → ∃ u : Value, vs[j]? = some u ∧ RV w G noO noB u x) →
    Calls P f vs w fun e w' => ∃ v, e = .returned v ∧ Below w.heap.size w w' ∧ RV w' (fun b => G b ∨ (w.heap.size ≤ b ∧ b < w'.heap.size)) noO noB v res

/-- What a value of the call's own reads as, where it is lent. -/
def out1 (s : St) (x y : AV) : Prop :=
  match x with
  | .c z => y = .c z
  | .clip k rows => y = .c (.sl k rows)
  | .nil _ => ∃ k, y = .c (.sl k [])
  | .own id k n => match s.ob id with
    | .row _ rows => y = .c (.sl k (rows.take n))
    | .tr _ _ rows => match shrs (rows.take n) with
      | some r => y = .c (.sl k r)
      | none => False
    | _ => False
  | .cut id k lo n => match s.ob id with
    | .row _ rows => y = .c (.sl k ((rows.drop lo).take n))
    | _ => False
  | .sub id ver i j _ _ => match s.ob id with
    | .tr _ ver' rows => ver' = ver ∧ match cellAt rows i.toNat j with
      | some c => match c.shr with
        | some z => y = .c z
        | none => False
      | none => False
    | _ => False
  | .elt cs => y = .elt cs
  | _ => False
def outs1 (s : St) : List AV → List AV → Prop
  | [], [] => True
  | x :: l, y :: l' => out1 s x y ∧ outs1 s l l'
  | _, _ => False
def out2 (s : St) (x y : AV) : Prop :=
  match x with
  | .agg l => match y with
    | .agg l' => outs1 s l l'
    | _ => False
  | .fn f l => match y with
    | .fn f' l' => f = f' ∧ outs1 s l l'
    | _ => False
  | .box id off => match s.ob id with
    | .box cells => match y with
      | .elt cs => outs1 s (cells.drop off) (cs.map .c)
      | _ => False
    | _ => False
  | x => out1 s x y
def outs2 (s : St) : List AV → List AV → Prop
  | [], [] => True
  | x :: l, y :: l' => out2 s x y ∧ outs2 s l l'
  | _, _ => False

def AV.data1 : AV → Bool
  | .c _ | .clip _ _ | .nil _ | .elt _ => true
  | _ => false
def AV.isData : AV → Bool
  | .agg l | .fn _ l => l.all AV.data1
  | x => x.data1
def AV.scalar1 : AV → Bool
  | .c (.sl _ _) => false
  | .c _ => true
  | _ => false
def AV.scalar2 : AV → Bool
  | .agg l => l.all AV.scalar1
  | x => x.scalar1
def AV.scalar : AV → Bool
  | .tup l => l.all AV.scalar2
  | x => x.scalar2

def AV.wf1 : AV → Prop
  | .c z => z.WF
  | .elt cs => ∀ z, z ∈ cs → z.WF
  | _ => True
def AV.wf : AV → Prop
  | .agg l | .fn _ l => ∀ y, y ∈ l → y.wf1
  | x => x.wf1
def argsWF : List AV → Prop
  | [] => True
  | x :: l => x.wf ∧ argsWF l

section
variable {g : Ghost} {s : St} {a : Act} {w : World} {blk : Lay} {v : Value} {x y : AV}

/-- All blocks that the call's arguments read, all that it was given, and all that are new. -/
def All (g : Ghost) (w : World) (b : Nat) : Prop := (g.G0 b ∨ g.F0 b) ∨ (g.w0.heap.size ≤ b ∧ b < w.heap.size)

theorem good_all (b : Nat) (h : Good g s.objs blk w b) : All g w b := by
  rcases h.1 with h | h
  · exact .inl (.inl h)
  · exact .inr h
theorem fp_all (h : Repr g s a w blk) {id b : Nat} (hl : s.objs id ≠ .none) (hf : blk.fp id b) : All g w b := by
  obtain ⟨h1, h2⟩ := h.new id b hl hf
  rcases h1 with h1 | h1
  · exact .inl (.inr h1)
  · exact .inr ⟨h1, h2⟩
theorem all_lt (h : Repr g s a w blk) {b : Nat} (hb : All g w b) : b < w.heap.size := by
  rcases hb with (e | e) | e
  · have := h.g0 b e; have := h.below.size; omega
  · have := h.f0 b e; have := h.below.size; omega
  · exact e.2

theorem rv1_data {G G' : Nat → Prop} {O O' : Nat → Obj} {bl bl' : Nat → Option Nat} (hG : ∀ b, G b → G' b) (hx : x.data1 = true) (h : RV1 w G O bl v x) : RV1 w G' O' bl' v x := by
  cases x <;> simp [AV.data1] at hx
  · exact Rd.mono h hG (fun _ _ _ h => h)
  · exact h
  · obtain ⟨a, n, e, hr⟩ := h; exact ⟨a, n, e, hr.mono hG (fun _ _ _ h => h)⟩
  · obtain ⟨ad, e, hc⟩ := h; exact ⟨ad, e, fun j c hj => let ⟨hg, u, hu, hr⟩ := hc j c hj; ⟨hG _ hg, u, hu, hr.mono hG (fun _ _ _ h => h)⟩⟩

theorem rd_nil {G : Nat → Prop} {A : Option Addr} {k : Nat} : Rd w G (.slice A 0 0) (.sl k []) := .sl (fun _ _ => default) rfl (Nat.le_refl _) (by unfold maxLen; omega) (by simp) (by simp) (by simp) (by simp)

theorem out1_ok (h : Repr g s a w blk) {G' : Nat → Prop} (hG : ∀ b, All g w b → G' b) (hx : RV1 w (Good g s.objs blk w) s.objs blk v x) (ho : out1 s x y) : RV1 w G' noO noB v y := by
  unfold out1 at ho
  split at ho
  · subst ho; exact Rd.mono hx (fun b hb => hG b (good_all b hb)) (fun _ _ _ h => h)
  · subst ho; obtain ⟨_, _, _, hr⟩ := hx; exact Rd.mono hr (fun b hb => hG b (good_all b hb)) (fun _ _ _ h => h)
  · obtain ⟨k, rfl⟩ := ho
    cases hx
    exact rd_nil
  · rename_i id k n
    split at ho
    · rename_i k2 rows hO
      subst ho
      have hk : k2 = k := by
        obtain ⟨m, hd, _⟩ := hx
        have : (s.ob id).dims = some (k, m) := hd
        rw [hO] at this; simp [Obj.dims] at this; exact this.1
      subst hk
      obtain ⟨_, hl, hot⟩ := own_ot h hx (c := .ow k2 (rows.take n)) (ids := [id]) (by simp [pk1, hO])
      exact hot.lend rfl (fun b hb => hG b (good_all b hb)) (fun b hb => hG b (fp_all h hl hb))
    · rename_i k2 ver rows hO
      split at ho
      · rename_i r hr
        subst ho
        have hk : k2 = k := by
          obtain ⟨m, hd, _⟩ := hx
          have : (s.ob id).dims = some (k, m) := hd
          rw [hO] at this; simp [Obj.dims] at this; exact this.1
        subst hk
        obtain ⟨_, hl, hot⟩ := own_ot h hx (c := .ot k2 (rows.take n)) (ids := [id]) (by simp [pk1, hO])
        exact hot.lend (by simp [C.shr, hr]) (fun b hb => hG b (good_all b hb)) (fun b hb => hG b (fp_all h hl hb))
      · exact ho.elim
    · exact ho.elim
  · rename_i id k lo n
    split at ho
    · rename_i k2 rows hO
      subst ho
      obtain ⟨m, A, c, hd, hle, rfl, h1, h2, h3⟩ := hx
      have hk : k2 = k ∧ rows.length = m := by
        have : (s.ob id).dims = some (k, m) := hd
        rw [hO] at this; simpa [Obj.dims] using this
      obtain ⟨rfl, rfl⟩ := hk
      have hlen : ((rows.drop lo).take n).length = n := by simp; omega
      rcases Nat.eq_zero_or_pos n with h0 | h0
      · subst h0
        simp only [List.take_zero]
        exact Rd.sl (fun _ _ => default) rfl h1 h2 (by simp) (by simp) (by simp) (by simp)
      · obtain ⟨b, hb, rfl⟩ := h3 h0
        obtain ⟨arr, e, r1, r2, r3, r4⟩ := h.row hO hb
        have hl : s.objs id ≠ .none := by rw [show s.objs id = _ from hO]; simp
        have get : ∀ (i : Nat) (r : List C), ((rows.drop lo).take n)[i]? = some r → rows[lo + i]? = some r := by
          intro i r hr
          rw [List.getElem?_take] at hr
          split at hr
          · rw [List.getElem?_drop] at hr; exact hr
          · cases hr
        refine Rd.sl (fun i j => (arr[(lo + i) * k2 + j]?).getD default) hlen h1 h2 (fun r hr => r3 r (List.mem_of_mem_drop (List.mem_of_mem_take hr))) (fun _ => rfl) (fun i r hr j c hc => ?_) (fun i r hr j c hc => ?_)
        · obtain ⟨u, hu, hru⟩ := r4 _ r j c (get i r hr) hc
          refine ⟨_, rfl, hG b (fp_all h hl (.inl hb)), ?_⟩
          rw [add_lit, cell_of w r1, show lo * k2 + (i * k2 + j) = (lo + i) * k2 + j by rw [Nat.add_mul]; omega, hu]; rfl
        · obtain ⟨u, hu, hru⟩ := r4 _ r j c (get i r hr) hc
          rw [hu]
          exact hru.mono (fun b hb => hG b (good_all b hb)) (fun _ _ _ h => h)
    · exact ho.elim
  · rename_i id ver i j k n
    split at ho
    · rename_i k0 ver' rows hO
      obtain ⟨rfl, ho⟩ := ho
      split at ho
      · rename_i c hc
        split at ho
        · rename_i z hz
          subst ho
          obtain ⟨q, r, c', A, cap, F, e1, e2, e3, e4, e5, e6, e7, e8, e9, e10⟩ := h.sub0 hO (RVs.of1 hx)
          obtain ⟨r', f1, f2⟩ := cellAt_some hc
          rw [e3] at f1; cases f1
          rw [e4] at f2; cases f2
          have hl : s.objs id ≠ .none := by rw [show s.objs id = _ from hO]; simp
          exact e9.lend hz (fun b hb => hG b (good_all b hb)) (fun b hb => hG b (fp_all h hl (.inr (e10 b hb).1)))
        · exact ho.elim
      · exact ho.elim
    · exact ho.elim
  · subst ho
    obtain ⟨ad, e, hc⟩ := hx
    exact ⟨ad, e, fun j c hj => let ⟨hg, u, hu, hr⟩ := hc j c hj; ⟨hG _ (good_all _ hg), u, hu, hr.mono (fun b hb => hG b (good_all b hb)) (fun _ _ _ h => h)⟩⟩
  · exact ho.elim

theorem outs1_get : ∀ {l l' : List AV}, outs1 s l l' → l'.length = l.length ∧ ∀ (j : Nat) (y : AV), l'[j]? = some y → ∃ x, l[j]? = some x ∧ out1 s x y
  | [], [], _ => ⟨rfl, fun j y hj => by simp at hj⟩
  | x :: l, y :: l', h => by
    obtain ⟨h1, h2⟩ := outs1_get h.2
    refine ⟨by simp [h1], fun j z hj => ?_⟩
    cases j with
    | zero => simp at hj; subst hj; exact ⟨x, rfl, h.1⟩
    | succ j => exact h2 j z (by simpa using hj)
theorem outs2_get : ∀ {l l' : List AV}, outs2 s l l' → l'.length = l.length ∧ ∀ (j : Nat) (y : AV), l'[j]? = some y → ∃ x, l[j]? = some x ∧ out2 s x y
  | [], [], _ => ⟨rfl, fun j y hj => by simp at hj⟩
  | x :: l, y :: l', h => by
    obtain ⟨h1, h2⟩ := outs2_get h.2
    refine ⟨by simp [h1], fun j z hj => ?_⟩
    cases j with
    | zero => simp at hj; subst hj; exact ⟨x, rfl, h.1⟩
    | succ j => exact h2 j z (by simpa using hj)

theorem rv_of1 {G : Nat → Prop} {O : Nat → Obj} {bl : Nat → Option Nat} (h : RV1 w G O bl v x) : RV w G O bl v x := by
  cases x <;> first | exact h | exact h.elim
theorem rv2_of1 {G : Nat → Prop} {O : Nat → Obj} {bl : Nat → Option Nat} (h : RV1 w G O bl v x) : RV2 w G O bl v x := by
  cases x <;> first | exact h | exact h.elim
theorem rv_of2 {G : Nat → Prop} {O : Nat → Obj} {bl : Nat → Option Nat} (h : RV2 w G O bl v x) : RV w G O bl v x := by
  cases x <;> first | exact h | exact h.elim

theorem out2_ok (h : Repr g s a w blk) {G' : Nat → Prop} (hG : ∀ b, All g w b → G' b) (hx : RVs g s w blk v x) (ho : out2 s x y) : RV2 w G' noO noB v y := by
  unfold out2 at ho
  split at ho
  · rename_i l
    split at ho
    · rename_i l'
      obtain ⟨arr, e, hs, hl⟩ := hx
      obtain ⟨h1, h2⟩ := outs1_get ho
      refine ⟨arr, e, by omega, fun j z hj => ?_⟩
      obtain ⟨x, hx, hxy⟩ := h2 j z hj
      obtain ⟨u, hu, hru⟩ := hl j x hx
      exact ⟨u, hu, out1_ok h hG hru hxy⟩
    · exact ho.elim
  · rename_i f l
    split at ho
    · rename_i f' l'
      obtain ⟨rfl, ho⟩ := ho
      obtain ⟨arr, e, hs, hl⟩ := hx
      obtain ⟨h1, h2⟩ := outs1_get ho
      refine ⟨arr, e, by omega, fun j z hj => ?_⟩
      obtain ⟨x, hx, hxy⟩ := h2 j z hj
      obtain ⟨u, hu, hru⟩ := hl j x hx
      exact ⟨u, hu, out1_ok h hG hru hxy⟩
    · exact ho.elim
  · rename_i id off
    split at ho
    · rename_i cells hO
      split at ho
      · rename_i cs
        obtain ⟨b, cells', hO', hb, rfl⟩ := hx
        obtain ⟨arr, e, r1, r2, r3⟩ := h.box hO hb
        have hl : s.objs id ≠ .none := by rw [show s.objs id = _ from hO]; simp
        obtain ⟨h1, h2⟩ := outs1_get ho
        refine ⟨_, rfl, fun j c hj => ?_⟩
        obtain ⟨x, hx, hxy⟩ := h2 j (.c c) (by simp [hj])
        rw [List.getElem?_drop] at hx
        obtain ⟨u, hu, hru⟩ := r3 _ x hx
        refine ⟨hG b (fp_all h hl (.inl hb)), u, by rw [add_lit, cell_of w r1]; exact hu, ?_⟩
        exact out1_ok h hG hru hxy
      · exact ho.elim
    · exact ho.elim
  · refine rv2_of1 (out1_ok h hG ?_ ho)
    cases x <;> first | exact hx | exact ho.elim | (rename_i h1 h2 h3; exact (h1 _ rfl).elim) | (rename_i h1 h2 h3; exact (h2 _ _ rfl).elim)

theorem data_ok {G' : Nat → Prop} (hG : ∀ b, Good g s.objs blk w b → G' b) (hx : RVs g s w blk v x) (hd : x.isData = true) (ho : out2 s x y) : RV w G' noO noB v y := by
  have one : ∀ {v : Value} {x y : AV}, x.data1 = true → RV1 w (Good g s.objs blk w) s.objs blk v x → out1 s x y → RV1 w G' noO noB v y := by
    intro v x y hd hx ho
    have := rv1_data (O' := noO) (bl' := noB) hG hd hx
    cases x <;> simp [AV.data1] at hd
    · cases ho; exact this
    · obtain ⟨k, rfl⟩ := ho
      cases hx
      exact rd_nil
    · cases ho; obtain ⟨_, _, _, hr⟩ := this; exact hr
    · cases ho; exact this
  cases x
  case agg l =>
    unfold out2 at ho
    simp only at ho
    split at ho
    · rename_i l'
      obtain ⟨arr, e, hs, hl⟩ := hx
      obtain ⟨h1, h2⟩ := outs1_get ho
      refine ⟨arr, e, by omega, fun j z hj => ?_⟩
      obtain ⟨x, hx, hxy⟩ := h2 j z hj
      obtain ⟨u, hu, hru⟩ := hl j x hx
      exact ⟨u, hu, one (List.all_eq_true.1 hd x (List.mem_of_getElem? hx)) hru hxy⟩
    · exact ho.elim
  case fn f l =>
    unfold out2 at ho
    simp only at ho
    split at ho
    · rename_i f' l'
      obtain ⟨rfl, ho⟩ := ho
      obtain ⟨arr, e, hs, hl⟩ := hx
      obtain ⟨h1, h2⟩ := outs1_get ho
      refine ⟨arr, e, by omega, fun j z hj => ?_⟩
      obtain ⟨x, hx, hxy⟩ := h2 j z hj
      obtain ⟨u, hu, hru⟩ := hl j x hx
      exact ⟨u, hu, one (List.all_eq_true.1 hd x (List.mem_of_getElem? hx)) hru hxy⟩
    · exact ho.elim
  case c z =>
    have ho' : out1 s (.c z) y := ho
    exact rv_of1 (one (x := .c z) rfl (RVs.one1 hx rfl) ho')
  case nil k =>
    have ho' : out1 s (.nil k) y := ho
    exact rv_of1 (one (x := .nil k) rfl (RVs.one1 hx rfl) ho')
  case clip k rows =>
    have ho' : out1 s (.clip k rows) y := ho
    exact rv_of1 (one (x := .clip k rows) rfl (RVs.one1 hx rfl) ho')
  case elt cs =>
    have ho' : out1 s (.elt cs) y := ho
    exact rv_of1 (one (x := .elt cs) rfl (RVs.one1 hx rfl) ho')
  all_goals exact absurd hd (by simp [AV.isData, AV.data1])

/-- Data read without objects read so beside any. -/
theorem rv1_wide {G G' : Nat → Prop} {O : Nat → Obj} {bl : Nat → Option Nat} (hG : ∀ b, G b → G' b) (h : RV1 w G noO noB v x) : RV1 w G' O bl v x := by
  cases x with
  | any => trivial
  | und => exact h
  | c x => exact Rd.mono h hG (fun _ _ _ h => h)
  | nil k => exact h
  | clip k rows => obtain ⟨a, n, e, hr⟩ := h; exact ⟨a, n, e, hr.mono hG (fun _ _ _ h => h)⟩
  | box id off => obtain ⟨b, cells, ho, r⟩ := h; cases ho
  | row id k i off => obtain ⟨b, cells, ho, r⟩ := h; cases ho
  | elt cs => obtain ⟨ad, e, hc⟩ := h; exact ⟨ad, e, fun j c hj => let ⟨hg, u, hu, hr⟩ := hc j c hj; ⟨hG _ hg, u, hu, hr.mono hG (fun _ _ _ h => h)⟩⟩
  | own id k n => obtain ⟨rows, ho, r⟩ := h; cases ho
  | sub id ver i j k n => obtain ⟨_, _, _, ho, r⟩ := h; cases ho
  | srow id ver i j k i' off => obtain ⟨_, _, _, ho, r⟩ := h; cases ho
  | cut id k lo n => obtain ⟨_, _, _, ho, r⟩ := h; cases ho
  | fn f l => exact h
  | agg l => exact h
  | tup l => exact h
theorem rv2_wide {G G' : Nat → Prop} {O : Nat → Obj} {bl : Nat → Option Nat} (hG : ∀ b, G b → G' b) (h : RV2 w G noO noB v x) : RV2 w G' O bl v x := by
  cases x
  case agg l => obtain ⟨arr, e, hs, hl⟩ := h; exact ⟨arr, e, hs, fun j x hj => let ⟨u, hu, hr⟩ := hl j x hj; ⟨u, hu, rv1_wide hG hr⟩⟩
  case fn f l => obtain ⟨arr, e, hs, hl⟩ := h; exact ⟨arr, e, hs, fun j x hj => let ⟨u, hu, hr⟩ := hl j x hj; ⟨u, hu, rv1_wide hG hr⟩⟩
  all_goals (simp only [RV2] at h ⊢; exact rv1_wide hG h)
theorem rv_wide {G G' : Nat → Prop} {O : Nat → Obj} {bl : Nat → Option Nat} (hG : ∀ b, G b → G' b) (h : RV w G noO noB v x) : RV w G' O bl v x := by
  cases x
  case tup l => obtain ⟨arr, e, hs, hl⟩ := h; exact ⟨arr, e, hs, fun j x hj => let ⟨u, hu, hr⟩ := hl j x hj; ⟨u, hu, rv2_wide hG hr⟩⟩
  all_goals (simp only [RV] at h ⊢; exact rv2_wide hG h)

/-- Scalars read so whatever the blocks. -/
theorem rv1_scalar {G G' : Nat → Prop} {O : Nat → Obj} {bl : Nat → Option Nat} (hx : x.scalar1 = true) (h : RV1 w G noO noB v x) : RV1 w G' O bl v x := by
  cases x <;> simp [AV.scalar1] at hx
  rename_i c
  have hr : Rd w G v c := h
  cases c <;> simp at hx <;> cases hr
  · exact Rd.i ‹_›
  · exact Rd.b
  · exact Rd.u ‹_›
  · exact Rd.s ‹_›
theorem rv2_scalar {G G' : Nat → Prop} {O : Nat → Obj} {bl : Nat → Option Nat} (hx : x.scalar2 = true) (h : RV2 w G noO noB v x) : RV2 w G' O bl v x := by
  cases x
  case agg l => obtain ⟨arr, e, hs, hl⟩ := h; exact ⟨arr, e, hs, fun j x hj => let ⟨u, hu, hr⟩ := hl j x hj; ⟨u, hu, rv1_scalar (List.all_eq_true.1 hx x (List.mem_of_getElem? hj)) hr⟩⟩
  case fn f l => simp [AV.scalar2, AV.scalar1] at hx
  all_goals (simp only [RV2] at h ⊢; exact rv1_scalar hx h)
theorem rv_scalar {G G' : Nat → Prop} {O : Nat → Obj} {bl : Nat → Option Nat} (hx : x.scalar = true) (h : RV w G noO noB v x) : RV w G' O bl v x := by
  cases x
  case tup l => obtain ⟨arr, e, hs, hl⟩ := h; exact ⟨arr, e, hs, fun j x hj => let ⟨u, hu, hr⟩ := hl j x hj; ⟨u, hu, rv2_scalar (List.all_eq_true.1 hx x (List.mem_of_getElem? hj)) hr⟩⟩
  all_goals (simp only [RV] at h ⊢; exact rv2_scalar hx h)
end

section
variable {P : Program} {f : Nat} {s : St} {d : Option Nat} {avs args : List AV} {res : AV} {K : St → Prop}

/-- A call whose result holds no slices: slices of the call's own may be lent to it. -/
theorem call_lend (hp : PureF P f args res) (ho : outs2 s avs args) (hs : res.scalar = true) (hK : K (s.put d res)) : callP P f avs d s K := by
  intro g a w blk h hd vs hvs hv
  obtain ⟨h1, h2⟩ := outs2_get ho
  refine (hp w (All g w) (fun b hb => all_lt h hb) vs (by omega) (fun j y hj => ?_)).mono ?_
  · obtain ⟨x, hx, hxy⟩ := h2 j y hj
    obtain ⟨u, hu, hru⟩ := hv j x hx
    exact ⟨u, hu, rv_of2 (out2_ok h (fun _ h => h) hru hxy)⟩
  · rintro e w' ⟨v, rfl, hb, hr⟩
    exact ⟨v, rfl, _, blk, hK, (h.call hb).put hd (rv_scalar hs hr)⟩

/-- A call whose arguments are data. -/
theorem call_pure (hp : PureF P f args res) (ho : outs2 s avs args) (hdat : avs.all AV.isData = true) (hK : K (s.put d res)) : callP P f avs d s K := by
  intro g a w blk h hd vs hvs hv
  obtain ⟨h1, h2⟩ := outs2_get ho
  refine (hp w (Good g s.objs blk w) (fun b hb => good_lt h hb) vs (by omega) (fun j y hj => ?_)).mono ?_
  · obtain ⟨x, hx, hxy⟩ := h2 j y hj
    obtain ⟨u, hu, hru⟩ := hv j x hx
    exact ⟨u, hu, data_ok (fun _ h => h) hru (List.all_eq_true.1 hdat x (List.mem_of_getElem? hx)) hxy⟩
  · rintro e w' ⟨v, rfl, hb, hr⟩
    have h' := h.call hb
    refine ⟨v, rfl, _, blk, hK, h'.put hd (rv_wide (fun b hb' => ?_) hr)⟩
    rcases hb' with hg | ⟨e1, e2⟩
    · refine ⟨?_, hg.2⟩
      rcases hg.1 with e | e
      · exact .inl e
      · exact .inr ⟨e.1, by have := hb.size; omega⟩
    · refine ⟨.inr ⟨by have := h.below.size; omega, e2⟩, fun id hid e => ?_⟩
      have := (h.new id b hid e).2
      omega
end


end Go.Proofs.Ytenfgllkjgfjpaa
