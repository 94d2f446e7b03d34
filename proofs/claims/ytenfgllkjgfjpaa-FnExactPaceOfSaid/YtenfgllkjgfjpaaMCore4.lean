/- The abstract machine, part 4: each instruction does in the model what it does to the abstract state (values, arithmetic, reading). -/
import Derived.Test.YtenfgllkjgfjpaaMCore3
import Derived.WalkKit
set_option linter.all false
namespace Go.Proofs.Ytenfgllkjgfjpaa
open Go.RowKit

def RVs (g : Ghost) (s : St) (w : World) (blk : Lay) (v : Value) (x : AV) : Prop :=
  RV w (Good g s.objs blk w) s.objs blk v x

section basics
variable {g : Ghost} {s : St} {a : Act} {w : World} {blk : Lay} {v : Value} {x : AV} {d : Option Nat}

theorem val_lt {t : Nat} (ht : t < slotM) : g.val a t = a.tmps.getD t undef := if_pos ht
theorem Repr.at_ (h : Repr g s a w blk) {t : Nat} (ht : t < slotM) : RVs g s w blk (a.tmps.getD t undef) (s.env t) := by
  have := h.env t; rwa [val_lt ht] at this

theorem upd_apply {α : Type} (k : Nat) (v : α) (f : Nat → α) (n : Nat) : upd k v f n = if n = k then v else f n := rfl
theorem look_cons {α : Type} (e : α) (k : Nat) (v : α) (l : List (Nat × α)) (n : Nat) : look e ((k, v) :: l) n = if n = k then v else look e l n := rfl

theorem put_size (a : Act) (d : Option Nat) (v : Value) : (a.put d v).tmps.size = a.tmps.size := by
  cases d <;> simp [Act.put]

theorem val_put (g : Ghost) (a : Act) (d : Nat) (v : Value) (t : Nat) (hd : d < a.tmps.size) (hs : a.tmps.size ≤ slotM) : g.val (a.put (some d) v) t = if t = d then v else g.val a t := by
  unfold Ghost.val
  by_cases ht : t < slotM
  · rw [if_pos ht, if_pos ht]
    simp only [Act.put, Array.getD_eq_getD_getElem?, Array.getElem?_setIfInBounds]
    by_cases h : t = d
    · subst h; simp [hd]
    · rw [if_neg (fun e => h e.symm), if_neg h]
  · rw [if_neg ht, if_neg ht, if_neg (by omega)]
theorem put_get (a : Act) (d : Nat) (v : Value) (t : Nat) (hd : d < a.tmps.size) : (a.put (some d) v).tmps.getD t undef = if t = d then v else a.tmps.getD t undef := by
  simp only [Act.put, Array.getD_eq_getD_getElem?, Array.getElem?_setIfInBounds]
  by_cases h : t = d
  · subst h; simp [hd]
  · rw [if_neg (fun e => h e.symm), if_neg h]

theorem Repr.put (h : Repr g s a w blk) (hd : ∀ i, d = some i → i < g.N) (hv : RVs g s w blk v x) : Repr g (s.put d x) (a.put d v) w blk := by
  cases d with
  | none => exact h
  | some d =>
    refine ⟨by rw [put_size]; exact h.size, h.small, h.defers, h.below, h.g0, h.f0, h.g0f, fun t => ?_, h.objs, h.new, h.inj, h.apart⟩
    rw [val_put g a d v t (by rw [h.size]; exact hd d rfl) (by rw [h.size]; exact h.small)]
    simp only [St.put, upd_apply]
    split
    · exact hv
    · exact h.env t

theorem RVs.c {c : C} (h : RVs g s w blk v (.c c)) : Rd w (Good g s.objs blk w) v c := h
theorem RVs.mk {c : C} (h : Rd w (Good g s.objs blk w) v c) : RVs g s w blk v (.c c) := h
theorem RVs.int {n : Int} (h : RVs g s w blk v (.c (.i n))) : v = .int .i64 n ∧ inI n := by cases h.c; exact ⟨rfl, ‹_›⟩
theorem RVs.bool {n : Bool} (h : RVs g s w blk v (.c (.b n))) : v = .bool n := by cases h.c; rfl
theorem RVs.byte {n : Nat} (h : RVs g s w blk v (.c (.u n))) : v = .int .u8 n ∧ n < 256 := by cases h.c; exact ⟨rfl, ‹_›⟩
theorem RVs.str {n : ByteArray} (h : RVs g s w blk v (.c (.s n))) : v = .string n ∧ n.size ≤ maxLen := by cases h.c; exact ⟨rfl, ‹_›⟩
theorem RVs.mkI {n : Int} (h : inI n) : RVs g s w blk (.int .i64 n) (.c (.i n)) := .mk (.i h)
theorem RVs.mkB {n : Bool} : RVs g s w blk (.bool n) (.c (.b n)) := .mk .b
theorem RVs.one1 (h : RVs g s w blk v x) (hx : x.cellOk = true) : RV1 w (Good g s.objs blk w) s.objs blk v x := by
  cases x <;> first | exact h | simp [AV.cellOk] at hx
theorem RVs.of1 (h : RV1 w (Good g s.objs blk w) s.objs blk v x) : RVs g s w blk v x := by
  cases x <;> first | exact h | exact h.elim
theorem RVs.of2 (h : RV2 w (Good g s.objs blk w) s.objs blk v x) : RVs g s w blk v x := by
  cases x <;> first | exact h | exact h.elim
theorem RV1.one {w : World} {G : Nat → Prop} {O : Nat → Obj} {blk : Nat → Option Nat} {v : Value} {x : AV} (h : RV1 w G O blk v x) (hx : x.cellOk = true) : v.oneCell' = true ∧ v.cells = #[v] := by
  cases x with
  | any => simp [AV.cellOk] at hx
  | und => simp [AV.cellOk] at hx
  | c x => exact ⟨Rd.one h, Rd.cells h⟩
  | nil k => cases h; exact ⟨rfl, rfl⟩
  | clip k rows => obtain ⟨a, n, rfl, _⟩ := h; exact ⟨rfl, rfl⟩
  | box id off => obtain ⟨b, cells, _, _, rfl⟩ := h; exact ⟨rfl, rfl⟩
  | row id k i off => obtain ⟨b, cells, _, _, rfl⟩ := h; exact ⟨rfl, rfl⟩
  | elt cs => obtain ⟨ad, rfl, _⟩ := h; exact ⟨rfl, rfl⟩
  | own id k n =>
    obtain ⟨rows, _, _, h⟩ := h
    rcases h with ⟨_, _, _, rfl⟩ | ⟨_, _, _, _, _, rfl, _⟩ <;> exact ⟨rfl, rfl⟩
  | cut id k lo n => obtain ⟨_, _, _, _, _, rfl, _⟩ := h; exact ⟨rfl, rfl⟩
  | agg l => exact h.elim
  | tup l => exact h.elim
  | fn f l => exact h.elim
  | sub id ver i j k n => simp [AV.cellOk] at hx
  | srow id ver i j k i' off => simp [AV.cellOk] at hx

theorem constAV_ok {v : Value} {x : AV} (h : constAV v = some x) : RVs g s w blk v x := by
  unfold constAV at h
  split at h
  · split at h
    · cases h; exact .mkI ‹_›
    · cases h
  · split at h
    · rename_i n hn
      cases h
      refine .mk ?_
      have : (Value.int .u8 n) = .int .u8 (n.toNat : Int) := by congr; omega
      rw [this]
      exact .u (by omega)
    · cases h
  · cases h; exact .mkB
  · split at h
    · cases h; exact .mk (.s ‹_›)
    · cases h
  · cases h; exact rfl
  · cases h; trivial
  · cases h

theorem constAVk_ok {k : Nat} {v : Value} {x : AV} (h : constAVk k v = some x) : RVs g s w blk v x := by
  unfold constAVk at h
  split at h
  · cases h; exact rfl
  · exact constAV_ok h

theorem Repr.ev (h : Repr g s a w blk) {o : Operand} {x : X} (hx : cx o = some x) : RVs g s w blk (a.eval o) (s.ev x) := by
  cases o with
  | tmp t =>
    simp only [cx] at hx
    split at hx
    · cases hx; exact h.at_ ‹_›
    · cases hx
  | const v =>
    simp only [cx, Option.map_eq_some_iff] at hx
    obtain ⟨y, hy, rfl⟩ := hx
    exact constAV_ok hy
  | global g => cases hx
  | func f => cases hx

theorem Repr.evt {P : Program} (h : Repr g s a w blk) {t : TypeId} {o : Operand} {x : X} (hx : cxt P t o = some x) : RVs g s w blk (a.eval o) (s.ev x) := by
  unfold cxt at hx
  split at hx
  · split at hx
    · simp only [Option.map_eq_some_iff] at hx
      obtain ⟨k, _, rfl⟩ := hx
      exact rfl
    · cases hx; exact rfl
  · exact h.ev hx

theorem Repr.evs (h : Repr g s a w blk) : ∀ {l : List Operand} {xs : List X}, cxs l = some xs →
    (l.map a.eval).length = (xs.map s.ev).length ∧ ∀ (j : Nat) (x : AV), (xs.map s.ev)[j]? = some x → ∃ u, (l.map a.eval)[j]? = some u ∧ RVs g s w blk u x
  | [], xs, hx => by cases hx; exact ⟨rfl, fun j x hj => by simp at hj⟩
  | o :: l, xs, hx => by
    simp only [cxs] at hx
    split at hx
    · rename_i x xs' h1 h2
      cases hx
      obtain ⟨hl, hr⟩ := h.evs h2
      refine ⟨by simp only [List.map_cons, List.length_cons, hl], fun j y hj => ?_⟩
      cases j with
      | zero =>
        simp only [List.map_cons, List.getElem?_cons_zero, Option.some.injEq] at hj
        subst hj
        exact ⟨_, rfl, h.ev h1⟩
      | succ j => exact hr j y (by simpa using hj)
    · cases hx
theorem Repr.evts {P : Program} (h : Repr g s a w blk) : ∀ {ts : List TypeId} {l : List Operand} {xs : List X}, cxts P ts l = some xs →
    (l.map a.eval).length = (xs.map s.ev).length ∧ ∀ (j : Nat) (x : AV), (xs.map s.ev)[j]? = some x → ∃ u, (l.map a.eval)[j]? = some u ∧ RVs g s w blk u x
  | [], [], xs, hx => by cases hx; exact ⟨rfl, fun j x hj => by simp at hj⟩
  | t :: ts, o :: l, xs, hx => by
    simp only [cxts] at hx
    split at hx
    · rename_i x xs' h1 h2
      cases hx
      obtain ⟨hl, hr⟩ := h.evts h2
      refine ⟨by simp only [List.map_cons, List.length_cons, hl], fun j y hj => ?_⟩
      cases j with
      | zero =>
        simp only [List.map_cons, List.getElem?_cons_zero, Option.some.injEq] at hj
        subst hj
        exact ⟨_, rfl, h.evt h1⟩
      | succ j => exact hr j y (by simpa using hj)
    · cases hx
  | [], _ :: _, xs, hx => by simp [cxts] at hx
  | _ :: _, [], xs, hx => by simp [cxts] at hx
end basics

def OpOk (P : Program) (g : Ghost) (o : Oper) (a : Act) (w : World) (K : St → Prop) : Prop :=
  ∃ nx w', (execOp a.eval o).run P w = .ok nx w' ∧
    match nx with
    | .value v => ∃ s' blk', K s' ∧ Repr g s' (a.put o.dst v) w' blk'
    | .skip => ∃ s' blk', K s' ∧ Repr g s' (a.put o.dst undef) w' blk'
    | .enter f args => Calls P f args w' fun e w'' => ∃ v, e = .returned v ∧ ∃ s' blk', K s' ∧ Repr g s' (a.put o.dst v) w'' blk'
    | _ => False

theorem OpOk.wp {P : Program} {g : Ghost} {o : Oper} {a : Act} {w : World} {K : St → Prop} {next : Act → World → Prop} {Q : Exit → Act → World → Prop}
    (h : OpOk P g o a w K) (hK : ∀ s' blk' a' w', K s' → Repr g s' a' w' blk' → next a' w') : o.wp P a w next Q := by
  obtain ⟨nx, w', hr, h⟩ := h
  unfold Oper.wp
  rw [hr]
  cases nx with
  | value v => obtain ⟨s', blk', k, r⟩ := h; exact hK _ _ _ _ k r
  | skip => obtain ⟨s', blk', k, r⟩ := h; exact hK _ _ _ _ k r
  | enter f args =>
    refine Calls.mono h ?_
    rintro e w'' ⟨v, rfl, s', blk', k, r⟩
    exact hK _ _ _ _ k r
  | _ => exact h.elim

/-- A step that yields a value and leaves the world alone. -/
theorem OpOk.val {P : Program} {g : Ghost} {o : Oper} {s : St} {a : Act} {w : World} {blk : Lay} {K : St → Prop} {v : Value} {x : AV}
    (h : Repr g s a w blk) (hd : ∀ i, o.dst = some i → i < g.N) (hr : (execOp a.eval o).run P w = .ok (.value v) w) (hv : RVs g s w blk v x) (hK : K (s.put o.dst x)) : OpOk P g o a w K :=
  ⟨_, _, hr, _, _, hK, h.put hd hv⟩

theorem OpOk.val2 {P : Program} {g : Ghost} {o : Oper} {s : St} {a : Act} {w : World} {blk : Lay} {K : St → Prop} {v : Value} {x : AV}
    (h : Repr g s a w blk) (hd : ∀ i, o.dst = some i → i < g.N) (hK : K (s.put o.dst x)) (hr : (execOp a.eval o).run P w = .ok (.value v) w) (hv : RVs g s w blk v x) : OpOk P g o a w K :=
  OpOk.val h hd hr hv hK

end Go.Proofs.Ytenfgllkjgfjpaa
