/- The abstract machine, part 1: what the cells of memory hold, as plain data; owned trees of blocks; the relation between a state of the model and an abstract state; that it is kept when memory grows. -/
import Derived.Below
import Derived.Calls
import Derived.Laws.AppendOwn
import Derived.Laws.OwnMore
import Derived.IntWalk
set_option linter.all false
namespace Go.Proofs.Ytenfgllkjgfjpaa
open Go.RowKit

/-- What one cell holds, read to its end. 'sl': a slice that is only read; 'ow': a slice in a block that is owned, its cells only read; 'ot': one whose cells are owned in turn; 'bx': a pointer to an owned block; 'jk': nothing that is known. -/
inductive C where
  | i (n : Int)
  | b (v : Bool)
  | u (n : Nat)
  | s (bs : ByteArray)
  | sl (k : Nat) (rows : List (List C))
  | ow (k : Nat) (rows : List (List C))
  | ot (k : Nat) (rows : List (List C))
  | bx (cells : List C)
  | jk
  deriving Inhabited

def inI (n : Int) : Prop := -9223372036854775808 ≤ n ∧ n ≤ 9223372036854775807

theorem inI_of {n : Int} (h1 : -9223372036854775808 ≤ n) (h2 : n ≤ 9223372036854775807) : inI n := ⟨h1, h2⟩
theorem wrap_inI {n : Int} (h : inI n) : IntKind.i64.wrap n = n := IntWalk.i64_in n h

/-- The value v reads in the world w as c, by blocks that are G. -/
inductive Rd (w : World) (G : Nat → Prop) : Value → C → Prop where
  | i {n : Int} : inI n → Rd w G (.int .i64 n) (.i n)
  | b {v : Bool} : Rd w G (.bool v) (.b v)
  | u {n : Nat} : n < 256 → Rd w G (.int .u8 n) (.u n)
  | s {bs : ByteArray} : bs.size ≤ maxLen → Rd w G (.string bs) (.s bs)
  | sl {a : Option Addr} {len cap k : Nat} {rows : List (List C)} (vals : Nat → Nat → Value) :
      rows.length = len → len ≤ cap → cap ≤ maxLen → (∀ r, r ∈ rows → r.length = k) → (0 < len → a.isSome = true) →
      (∀ i r, rows[i]? = some r → ∀ j c, r[j]? = some c → ∃ ad, a = some ad ∧ G ad.block ∧ w.cell? (ad.add (i * k + j)) = some (vals i j)) →
      (∀ i r, rows[i]? = some r → ∀ j c, r[j]? = some c → Rd w G (vals i j) c) →
      Rd w G (.slice a len cap) (.sl k rows)


theorem block_add (a : Addr) (n : Nat) : (a.add n).block = a.block := by unfold Addr.add; split <;> rfl
theorem add_add (a : Addr) (i j : Nat) : (a.add i).add j = a.add (i + j) := by
  unfold Addr.add
  by_cases hi : i = 0 <;> by_cases hj : j = 0 <;> simp [hi, hj, Nat.add_assoc]
theorem add_lit (g o n : Nat) : (⟨g, o, none⟩ : Addr).add n = ⟨g, o + n, none⟩ := by
  unfold Addr.add; split <;> simp_all

theorem Rd.mono {w w' : World} {G G' : Nat → Prop} {v : Value} {c : C} (h : Rd w G v c) (hG : ∀ b, G b → G' b)
    (hc : ∀ (ad : Addr) (u : Value), G ad.block → w.cell? ad = some u → w'.cell? ad = some u) : Rd w' G' v c := by
  induction h with
  | i h => exact .i h
  | b => exact .b
  | u h => exact .u h
  | s h => exact .s h
  | sl vals h1 h2 h3 h4 h5 h6 _ ih =>
    refine .sl vals h1 h2 h3 h4 h5 (fun i r hr j c hj => ?_) ih
    obtain ⟨ad, e, g, hcell⟩ := h6 i r hr j c hj
    exact ⟨ad, e, hG _ g, hc _ _ (by rw [block_add]; exact g) hcell⟩

theorem Rd.one {w : World} {G : Nat → Prop} {v : Value} {c : C} (h : Rd w G v c) : v.oneCell' = true := by
  cases h <;> rfl
theorem Rd.cells {w : World} {G : Nat → Prop} {v : Value} {c : C} (h : Rd w G v c) : v.cells = #[v] := by
  cases h <;> rfl

/-- Bounds that every readable cell meets. -/
def C.WF : C → Prop
  | .i n => inI n
  | .b _ => True
  | .u n => n < 256
  | .s bs => bs.size ≤ maxLen
  | .sl k rows => rows.length ≤ maxLen ∧ ∀ r, r ∈ rows → r.length = k ∧ ∀ c, c ∈ r → c.WF
  | .ow k rows => rows.length ≤ maxLen ∧ ∀ r, r ∈ rows → r.length = k ∧ ∀ c, c ∈ r → c.WF
  | .ot k rows => rows.length ≤ maxLen ∧ ∀ r, r ∈ rows → r.length = k ∧ ∀ c, c ∈ r → c.WF
  | .bx cells => ∀ c, c ∈ cells → c.WF
  | .jk => True
termination_by c => SizeOf.sizeOf c
decreasing_by
  all_goals first
    | (have h1 := List.sizeOf_lt_of_mem ‹_ ∈ rows›
       have h2 := List.sizeOf_lt_of_mem ‹_ ∈ r›
       simp only [C.sl.sizeOf_spec, C.ow.sizeOf_spec, C.ot.sizeOf_spec]
       omega)
    | (have h1 := List.sizeOf_lt_of_mem ‹_ ∈ cells›
       simp only [C.bx.sizeOf_spec]
       omega)

theorem Rd.wf {w : World} {G : Nat → Prop} {v : Value} {c : C} (h : Rd w G v c) : c.WF := by
  induction h with
  | i h => simpa [C.WF] using h
  | b => simp [C.WF]
  | u h => simpa [C.WF] using h
  | s h => simpa [C.WF] using h
  | sl vals h1 h2 h3 h4 h5 h6 _ ih =>
    simp only [C.WF]
    refine ⟨by omega, fun r hr => ⟨h4 r hr, fun c hc => ?_⟩⟩
    obtain ⟨i, hi⟩ := List.getElem?_of_mem hr
    obtain ⟨j, hj⟩ := List.getElem?_of_mem hc
    exact ih i r hi j c hj

/-! Owned trees. -/
def noF : Nat → Prop := fun _ => False

/-- The value v reads as c; F holds the blocks that it owns; what is only read lies in blocks that are G. -/
inductive OT (w : World) (G : Nat → Prop) : Value → C → (Nat → Prop) → Prop where
  | sh {v : Value} {c : C} {F : Nat → Prop} : Rd w G v c → OT w G v c F
  | jk {v : Value} {F : Nat → Prop} : v.oneCell' = true → v.cells = #[v] → OT w G v .jk F
  | ow0 {a : Option Addr} {k : Nat} {F : Nat → Prop} : OT w G (.slice a 0 0) (.ow k []) F
  | ot0 {a : Option Addr} {k : Nat} {F : Nat → Prop} : OT w G (.slice a 0 0) (.ot k []) F
  | ow {b len cap k : Nat} {rows : List (List C)} {arr : Array Value} {e : TypeId} {F : Nat → Prop} (vals : Nat → Nat → Value) :
      w.heap[b]? = some (.cells arr e (0, 0)) → rows.length = len → len ≤ cap → cap ≤ maxLen → cap * k ≤ arr.size → (∀ r, r ∈ rows → r.length = k) → F b →
      (∀ i r, rows[i]? = some r → ∀ j c, r[j]? = some c → arr[i * k + j]? = some (vals i j)) →
      (∀ i r, rows[i]? = some r → ∀ j c, r[j]? = some c → Rd w G (vals i j) c) →
      OT w G (.slice (some ⟨b, 0, none⟩) len cap) (.ow k rows) F
  | ot {b len cap k : Nat} {rows : List (List C)} {arr : Array Value} {e : TypeId} {F : Nat → Prop} (vals : Nat → Nat → Value) (Fs : Nat → Nat → Nat → Prop) :
      w.heap[b]? = some (.cells arr e (0, 0)) → rows.length = len → len ≤ cap → cap ≤ maxLen → cap * k ≤ arr.size → (∀ r, r ∈ rows → r.length = k) → F b →
      (∀ i j x, Fs i j x → F x ∧ x ≠ b) → (∀ i j i' j' x, Fs i j x → Fs i' j' x → i = i' ∧ j = j') →
      (∀ i r, rows[i]? = some r → ∀ j c, r[j]? = some c → arr[i * k + j]? = some (vals i j)) →
      (∀ i r, rows[i]? = some r → ∀ j c, r[j]? = some c → OT w G (vals i j) c (Fs i j)) →
      OT w G (.slice (some ⟨b, 0, none⟩) len cap) (.ot k rows) F
  | bx {b : Nat} {cells : List C} {arr : Array Value} {e : TypeId} {F : Nat → Prop} (vals : Nat → Value) (Fs : Nat → Nat → Prop) :
      w.heap[b]? = some (.cells arr e (0, 0)) → arr.size = cells.length → F b →
      (∀ j x, Fs j x → F x ∧ x ≠ b) → (∀ j j' x, Fs j x → Fs j' x → j = j') →
      (∀ (j : Nat) c, cells[j]? = some c → arr[j]? = some (vals j)) →
      (∀ (j : Nat) c, cells[j]? = some c → OT w G (vals j) c (Fs j)) →
      OT w G (.pointer (some ⟨b, 0, none⟩)) (.bx cells) F

theorem OT.mono {w w' : World} {G G' : Nat → Prop} {v : Value} {c : C} {F : Nat → Prop} (h : OT w G v c F) (hG : ∀ b, G b → G' b)
    (hc : ∀ (ad : Addr) (u : Value), G ad.block → w.cell? ad = some u → w'.cell? ad = some u) : ∀ {F' : Nat → Prop}, (∀ x, F x → F' x) → (∀ x, F x → w'.heap[x]? = w.heap[x]?) → OT w' G' v c F' := by
  induction h with
  | sh h => intro F' _ _; exact .sh (h.mono hG hc)
  | jk h h2 => intro F' _ _; exact .jk h h2
  | ow0 => intro F' _ _; exact .ow0
  | ot0 => intro F' _ _; exact .ot0
  | ow vals h1 h2 h3 h4 h5 h6 h7 h8 h9 =>
    intro F' hF hh
    exact .ow vals (by rw [hh _ h7]; exact h1) h2 h3 h4 h5 h6 (hF _ h7) h8 (fun i r hr j c hj => (h9 i r hr j c hj).mono hG hc)
  | ot vals Fs h1 h2 h3 h4 h5 h6 h7 h8 h9 h10 _ ih =>
    intro F' hF hh
    exact .ot vals Fs (by rw [hh _ h7]; exact h1) h2 h3 h4 h5 h6 (hF _ h7) (fun i j x hx => ⟨hF _ (h8 i j x hx).1, (h8 i j x hx).2⟩) h9 h10 (fun i r hr j c hj => ih i r hr j c hj (fun _ h => h) fun x hx => hh x (h8 i j x hx).1)
  | bx vals Fs h1 h2 h3 h4 h5 h6 _ ih =>
    intro F' hF hh
    exact .bx vals Fs (by rw [hh _ h3]; exact h1) h2 (hF _ h3) (fun j x hx => ⟨hF _ (h4 j x hx).1, (h4 j x hx).2⟩) h5 h6 (fun j c hj => ih j c hj (fun _ h => h) fun x hx => hh x (h4 j x hx).1)

theorem OT.one {w : World} {G : Nat → Prop} {v : Value} {c : C} {F : Nat → Prop} (h : OT w G v c F) : v.oneCell' = true := by
  cases h <;> first | exact Rd.one ‹_› | rfl | assumption
theorem OT.cells {w : World} {G : Nat → Prop} {v : Value} {c : C} {F : Nat → Prop} (h : OT w G v c F) : v.cells = #[v] := by
  cases h <;> first | exact Rd.cells ‹_› | rfl | assumption
theorem OT.wf {w : World} {G : Nat → Prop} {v : Value} {c : C} {F : Nat → Prop} (h : OT w G v c F) : c.WF := by
  induction h with
  | sh h => exact h.wf
  | jk => simp [C.WF]
  | ow0 => simp [C.WF]
  | ot0 => simp [C.WF]
  | ow vals h1 h2 h3 h4 h5 h6 h7 h8 h9 =>
    simp only [C.WF]
    refine ⟨by omega, fun r hr => ⟨h6 r hr, fun c hc => ?_⟩⟩
    obtain ⟨i, hi⟩ := List.getElem?_of_mem hr
    obtain ⟨j, hj⟩ := List.getElem?_of_mem hc
    exact (h9 i r hi j c hj).wf
  | ot vals Fs h1 h2 h3 h4 h5 h6 h7 h8 h9 h10 _ ih =>
    simp only [C.WF]
    refine ⟨by omega, fun r hr => ⟨h6 r hr, fun c hc => ?_⟩⟩
    obtain ⟨i, hi⟩ := List.getElem?_of_mem hr
    obtain ⟨j, hj⟩ := List.getElem?_of_mem hc
    exact ih i r hi j c hj
  | bx vals Fs h1 h2 h3 h4 h5 h6 _ ih =>
    simp only [C.WF]
    intro c hc
    obtain ⟨j, hj⟩ := List.getElem?_of_mem hc
    exact ih j c hj

/-- The size of the elements and how many there are, of a slice that is owned. -/
def C.sz : C → Option (Nat × Nat)
  | .ow k rows => some (k, rows.length)
  | .ot k rows => some (k, rows.length)
  | _ => none

/-! What is only read, where an owned tree is lent. -/
mutual
def C.shr : C → Option C
  | .i n => some (.i n)
  | .b v => some (.b v)
  | .u n => some (.u n)
  | .s x => some (.s x)
  | .sl k rows => some (.sl k rows)
  | .ow k rows => some (.sl k rows)
  | .ot k rows => match shrs rows with
    | some r => some (.sl k r)
    | none => none
  | .bx _ => none
  | .jk => none
def shrl : List C → Option (List C)
  | [] => some []
  | c :: l => match c.shr, shrl l with
    | some x, some r => some (x :: r)
    | _, _ => none
def shrs : List (List C) → Option (List (List C))
  | [] => some []
  | c :: l => match shrl c, shrs l with
    | some x, some r => some (x :: r)
    | _, _ => none
end

theorem shrl_get : ∀ {l r : List C}, shrl l = some r → r.length = l.length ∧ ∀ (j : Nat) (y : C), r[j]? = some y → ∃ x, l[j]? = some x ∧ x.shr = some y
  | [], r, h => by simp [shrl] at h; subst h; exact ⟨rfl, fun j y hj => by simp at hj⟩
  | c :: l, r, h => by
    simp only [shrl] at h
    split at h
    · rename_i x q h1 h2
      cases h
      obtain ⟨e1, e2⟩ := shrl_get h2
      refine ⟨by simp [e1], fun j y hj => ?_⟩
      cases j with
      | zero => simp at hj; subst hj; exact ⟨c, rfl, h1⟩
      | succ j => exact e2 j y (by simpa using hj)
    · cases h
theorem shrs_get : ∀ {l r : List (List C)}, shrs l = some r → r.length = l.length ∧ ∀ (j : Nat) (y : List C), r[j]? = some y → ∃ x, l[j]? = some x ∧ shrl x = some y
  | [], r, h => by simp [shrs] at h; subst h; exact ⟨rfl, fun j y hj => by simp at hj⟩
  | c :: l, r, h => by
    simp only [shrs] at h
    split at h
    · rename_i x q h1 h2
      cases h
      obtain ⟨e1, e2⟩ := shrs_get h2
      refine ⟨by simp [e1], fun j y hj => ?_⟩
      cases j with
      | zero => simp at hj; subst hj; exact ⟨c, rfl, h1⟩
      | succ j => exact e2 j y (by simpa using hj)
    · cases h

theorem cell_of (w : World) {b : Nat} {arr : Array Value} {e : TypeId} (h : w.heap[b]? = some (.cells arr e (0, 0))) (j : Nat) : w.cell? ⟨b, j, none⟩ = arr[j]? := cell_of_row w b j arr e (0, 0) h

/-- What is owned may be lent: then it is only read. -/
theorem OT.lend {w : World} {G : Nat → Prop} {v : Value} {c : C} {F : Nat → Prop} (h : OT w G v c F) : ∀ {y : C}, c.shr = some y → ∀ {G' : Nat → Prop}, (∀ b, G b → G' b) → (∀ b, F b → G' b) → Rd w G' v y := by
  induction h with
  | sh h =>
    intro y hy G' h1 h2
    cases h with
    | i h => simp [C.shr] at hy; subst hy; exact .i h
    | b => simp [C.shr] at hy; subst hy; exact .b
    | u h => simp [C.shr] at hy; subst hy; exact .u h
    | s h => simp [C.shr] at hy; subst hy; exact .s h
    | sl vals a1 a2 a3 a4 a5 a6 a7 =>
      simp only [C.shr, Option.some.injEq] at hy; subst hy
      exact Rd.mono (.sl vals a1 a2 a3 a4 a5 a6 a7) h1 (fun _ _ _ h => h)
  | jk => intro y hy; simp [C.shr] at hy
  | ow0 =>
    intro y hy G' h1 h2
    simp only [C.shr, Option.some.injEq] at hy; subst hy
    exact .sl (fun _ _ => default) rfl (Nat.le_refl _) (by unfold maxLen; omega) (by simp) (by simp) (by simp) (by simp)
  | ot0 =>
    intro y hy G' h1 h2
    simp [C.shr, shrs] at hy; subst hy
    exact .sl (fun _ _ => default) rfl (Nat.le_refl _) (by unfold maxLen; omega) (by simp) (by simp) (by simp) (by simp)
  | ow vals a1 a2 a3 a4 a5 a6 a7 a8 a9 =>
    intro y hy G' h1 h2
    simp only [C.shr, Option.some.injEq] at hy; subst hy
    refine .sl vals a2 a3 a4 a6 (fun _ => rfl) (fun i r hr j c hj => ⟨_, rfl, h2 _ a7, ?_⟩) (fun i r hr j c hj => (a9 i r hr j c hj).mono h1 (fun _ _ _ h => h))
    rw [add_lit, Nat.zero_add, cell_of w a1]
    exact a8 i r hr j c hj
  | @ot b0 len cap k rows arr e F vals Fs a1 a2 a3 a4 a5 a6 a7 a8 a9 a10 _ ih =>
    intro y hy G' h1 h2
    simp only [C.shr] at hy
    split at hy
    · rename_i q hq
      cases hy
      obtain ⟨l1, l2⟩ := shrs_get hq
      have key : ∀ i r, q[i]? = some r → ∀ (j : Nat) c, r[j]? = some c → ∃ (r' : List C) (c' : C), rows[i]? = some r' ∧ r'[j]? = some c' ∧ c'.shr = some c := fun i r hr j c hc => by
        obtain ⟨r', e1, e2⟩ := l2 i r hr
        obtain ⟨c', e3, e4⟩ := (shrl_get e2).2 j c hc
        exact ⟨r', c', e1, e3, e4⟩
      refine .sl vals (by omega) a3 a4 (fun r hr => ?_) (fun _ => rfl) (fun i r hr j c hj => ⟨_, rfl, h2 _ a7, ?_⟩) (fun i r hr j c hj => ?_)
      · obtain ⟨i, hi⟩ := List.getElem?_of_mem hr
        obtain ⟨r', e1, e2⟩ := l2 i r hi
        rw [(shrl_get e2).1]
        exact a6 r' (List.mem_of_getElem? e1)
      · obtain ⟨r', c', e1, e2, _⟩ := key i r hr j c hj
        rw [add_lit, Nat.zero_add, cell_of w a1]
        exact a10 i r' e1 j c' e2
      · obtain ⟨r', c', e1, e2, e3⟩ := key i r hr j c hj
        exact ih i r' e1 j c' e2 e3 h1 fun b hb => h2 b (a8 i j b hb).1
    · cases hy
  | bx => intro y hy; simp [C.shr] at hy

/-- A tree's cells in a block. -/
def TreeOk (w : World) (G : Nat → Prop) (arr : Array Value) (k : Nat) (rows : List (List C)) (S : Nat → Prop) (b : Nat) : Prop :=
  ∃ (vals : Nat → Nat → Value) (Fs : Nat → Nat → Nat → Prop), (∀ i j x, Fs i j x → S x ∧ x ≠ b) ∧ (∀ i j i' j' x, Fs i j x → Fs i' j' x → i = i' ∧ j = j') ∧
    (∀ i r, rows[i]? = some r → ∀ j c, r[j]? = some c → arr[i * k + j]? = some (vals i j)) ∧
    (∀ i r, rows[i]? = some r → ∀ j c, r[j]? = some c → OT w G (vals i j) c (Fs i j))

theorem TreeOk.mono {w w' : World} {G G' : Nat → Prop} {arr : Array Value} {k : Nat} {rows : List (List C)} {S S' : Nat → Prop} {b : Nat} (h : TreeOk w G arr k rows S b) (hG : ∀ b, G b → G' b)
    (hc : ∀ (ad : Addr) (u : Value), G ad.block → w.cell? ad = some u → w'.cell? ad = some u) (hS : ∀ x, S x → S' x) (hh : ∀ x, S x → w'.heap[x]? = w.heap[x]?) : TreeOk w' G' arr k rows S' b := by
  obtain ⟨vals, Fs, h1, h2, h3, h4⟩ := h
  exact ⟨vals, Fs, fun i j x hx => ⟨hS x (h1 i j x hx).1, (h1 i j x hx).2⟩, h2, h3, fun i r hr j c hj => (h4 i r hr j c hj).mono hG hc (fun _ h => h) fun x hx => hh x (h1 i j x hx).1⟩

/-- But for the blocks of F, what was there is as it was. -/
structure Off (F : Nat → Prop) (w w' : World) : Prop where
  os : w'.os = w.os
  tape : w'.tape = w.tape
  output : w'.output = w.output
  size : w.heap.size ≤ w'.heap.size
  block : ∀ k, k < w.heap.size → ¬ F k → w'.heap[k]? = w.heap[k]?
  sized : ∀ k arr e, F k → w.heap[k]? = some (.cells arr e (0, 0)) → ∃ arr' : Array Value, w'.heap[k]? = some (.cells arr' e (0, 0)) ∧ arr'.size = arr.size

theorem heap_lt {w : World} {k : Nat} {o : Go.Obj} (h : w.heap[k]? = some o) : k < w.heap.size := (Array.getElem?_eq_some_iff.1 h).1
theorem Off.refl (F : Nat → Prop) (w : World) : Off F w w := ⟨rfl, rfl, rfl, Nat.le_refl _, fun _ _ _ => rfl, fun _ arr _ _ h => ⟨arr, h, rfl⟩⟩
theorem Off.of_below {w w' : World} (F : Nat → Prop) (h : Below w.heap.size w w') : Off F w w' := ⟨h.os, h.tape, h.output, h.size, fun k hk _ => h.block k hk, fun k arr e _ hk => ⟨arr, by rw [h.block k (heap_lt hk)]; exact hk, rfl⟩⟩
theorem Off.below {w w' : World} (h : Off noF w w') : Below w.heap.size w w' := ⟨h.os, h.tape, h.output, h.size, fun k hk => h.block k hk (fun h => h)⟩
/-- Whatever is written: a block stays as large as it was. -/
theorem Off.any {F : Nat → Prop} {w w' : World} (h : Off F w w') {k : Nat} {arr : Array Value} {e : TypeId} (hk : w.heap[k]? = some (.cells arr e (0, 0))) : ∃ arr' : Array Value, w'.heap[k]? = some (.cells arr' e (0, 0)) ∧ arr'.size = arr.size := by
  by_cases hf : F k
  · exact h.sized k arr e hf hk
  · exact ⟨arr, by rw [h.block k (heap_lt hk) hf]; exact hk, rfl⟩
theorem Off.then {F X : Nat → Prop} {a b c : World} (h : Off F a b) (k : Off X b c) (hx : ∀ q, X q → F q ∨ a.heap.size ≤ q) : Off F a c :=
  ⟨k.os.trans h.os, k.tape.trans h.tape, k.output.trans h.output, Nat.le_trans h.size k.size, fun q hq hf => by
    rw [k.block q (Nat.lt_of_lt_of_le hq h.size) fun e => ?_, h.block q hq hf]
    rcases hx q e with e2 | e2
    · exact hf e2
    · omega, fun q arr e _ hq => by
    obtain ⟨arr1, h1, h2⟩ := h.any hq
    obtain ⟨arr2, h3, h4⟩ := k.any h1
    exact ⟨arr2, h3, h4.trans h2⟩⟩
theorem Off.mono {F F' : Nat → Prop} {a b : World} (h : Off F a b) (hF : ∀ x, F x → F' x) : Off F' a b := ⟨h.os, h.tape, h.output, h.size, fun k hk hf => h.block k hk fun e => hf (hF k e), fun _ _ _ _ hk => h.any hk⟩
theorem Off.drew {F : Nat → Prop} {a w : World} (h : Off F a w) : Off F a w.drew := ⟨h.os, h.tape, h.output, h.size, h.block, h.sized⟩
theorem Off.alloc {F : Nat → Prop} {a w : World} (h : Off F a w) (o : Go.Obj) : Off F a (w.alloc o) :=
  h.then (X := noF) (.of_below _ ((Below.refl _ _).alloc (Nat.le_refl _) o)) fun _ e => e.elim
theorem Off.call {F : Nat → Prop} {a w w' : World} (h : Off F a w) (hb : Below w.heap.size w w') : Off F a w' := h.then (X := noF) (.of_below _ hb) fun _ e => e.elim

/-- Abstract values: what a temporary holds. 'own', 'row', 'box' point to the objects of the call's own; 'sub', 'srow': to a slice that lies in a cell of one. -/
inductive AV where
  | any
  | und
  | c (x : C)
  | nil (k : Nat)
  | clip (k : Nat) (rows : List (List C))
  | box (id off : Nat)
  | row (id k : Nat) (i : Int) (off : Nat)
  | elt (cs : List C)
  | own (id k n : Nat)
  | agg (l : List AV)
  | tup (l : List AV)
  | sub (id ver : Nat) (i : Int) (j k n : Nat)
  | srow (id ver : Nat) (i : Int) (j k : Nat) (i' : Int) (off : Nat)
  | cut (id k lo n : Nat)
  | fn (f : Nat) (l : List AV)
  deriving Inhabited

inductive Obj where
  | none
  | box (cells : List AV)
  | row (k : Nat) (rows : List (List C))
  | tr (k ver : Nat) (rows : List (List C))
  deriving Inhabited

def Obj.dims : Obj → Option (Nat × Nat)
  | .row k rows => some (k, rows.length)
  | .tr k _ rows => some (k, rows.length)
  | _ => Option.none

structure St where
  env : Nat → AV
  objs : Nat → Obj

def upd {α : Type} (k : Nat) (v : α) (f : Nat → α) : Nat → α := fun n => if n = k then v else f n

def look {α : Type} (d : α) : List (Nat × α) → Nat → α
  | [], _ => d
  | (k, v) :: l, n => if n = k then v else look d l n

section
variable (w : World) (G : Nat → Prop) (O : Nat → Obj) (blk : Nat → Option Nat)

/-- The cell (i, j) of the block holds v, the header of a slice that is owned. -/
def SubAt (b : Option Nat) (k0 : Nat) (rows : List (List C)) (i j k n : Nat) (v : Value) : Prop :=
  ∃ q r c, b = some q ∧ w.cell? ⟨q, i * k0 + j, Option.none⟩ = some v ∧ rows[i]? = some r ∧ r[j]? = some c ∧ c.sz = some (k, n)

def RV1 (v : Value) : AV → Prop
  | .any => True
  | .und => v = undef
  | .c x => Rd w G v x
  | .nil _ => v = .slice Option.none 0 0
  | .clip k rows => ∃ a n, v = .slice a n n ∧ Rd w G v (.sl k rows)
  | .box id off => ∃ b cells, O id = .box cells ∧ blk id = some b ∧ v = .pointer (some ⟨b, off, Option.none⟩)
  | .row id k i off => ∃ b m, (O id).dims = some (k, m) ∧ blk id = some b ∧ v = .pointer (some ⟨b, i.toNat * k + off, Option.none⟩)
  | .elt cs => ∃ ad, v = .pointer (some ad) ∧ ∀ j c, cs[j]? = some c → G ad.block ∧ ∃ u, w.cell? (ad.add j) = some u ∧ Rd w G u c
  | .own id k n => ∃ m, (O id).dims = some (k, m) ∧ n ≤ m ∧
      ((blk id = Option.none ∧ n = 0 ∧ ∃ A, v = .slice A 0 0) ∨
       ∃ b cap arr e, blk id = some b ∧ v = .slice (some ⟨b, 0, Option.none⟩) n cap ∧ n ≤ cap ∧ cap ≤ maxLen ∧ w.heap[b]? = some (.cells arr e (0, 0)) ∧ cap * k ≤ arr.size)
  | .agg _ => False
  | .tup _ => False
  | .sub id ver i j k n => ∃ k0 ver' rows, O id = .tr k0 ver' rows ∧ ver ≤ ver' ∧ (ver = ver' → SubAt w (blk id) k0 rows i.toNat j k n v)
  | .srow id ver i j k i' off => ∃ k0 ver' rows, O id = .tr k0 ver' rows ∧ ver ≤ ver' ∧ (ver = ver' → ∃ b len cap n, SubAt w (blk id) k0 rows i.toNat j k n (.slice (some ⟨b, 0, Option.none⟩) len cap) ∧ v = .pointer (some ⟨b, i'.toNat * k + off, Option.none⟩))
  | .cut id k lo n => ∃ m A c, (O id).dims = some (k, m) ∧ lo + n ≤ m ∧ v = .slice A n c ∧ n ≤ c ∧ c ≤ maxLen ∧ (0 < n → ∃ b, blk id = some b ∧ A = some ⟨b, lo * k, Option.none⟩)
  | .fn _ _ => False

def RV2 (v : Value) : AV → Prop
  | .agg l => ∃ arr : Array Value, v = .agg arr ∧ arr.size = l.length ∧ ∀ (j : Nat) (x : AV), l[j]? = some x → ∃ u : Value, arr[j]? = some u ∧ RV1 w G O blk u x
  | .fn f l => ∃ arr : Array Value, v = .func (.func f) #[] arr ∧ arr.size = l.length ∧ ∀ (j : Nat) (x : AV), l[j]? = some x → ∃ u : Value, arr[j]? = some u ∧ RV1 w G O blk u x
  | x => RV1 w G O blk v x

def RV (v : Value) : AV → Prop
  | .tup l => ∃ arr : Array Value, v = .tuple arr ∧ arr.size = l.length ∧ ∀ (j : Nat) (x : AV), l[j]? = some x → ∃ u : Value, arr[j]? = some u ∧ RV2 w G O blk u x
  | x => RV2 w G O blk v x

/-- The block b (none: there is none yet) holds the object; S: the blocks that its cells own. -/
def ObjOk (S : Nat → Prop) (b : Option Nat) : Obj → Prop
  | .none => True
  | .box cells => ∃ (g : Nat) (arr : Array Value) (e : TypeId), b = some g ∧ w.heap[g]? = some (.cells arr e (0, 0)) ∧ arr.size = cells.length ∧
      ∀ (j : Nat) (x : AV), cells[j]? = some x → ∃ u : Value, arr[j]? = some u ∧ RV1 w G O blk u x
  | .row k rows => (b = Option.none ∧ rows = []) ∨ ∃ (g : Nat) (arr : Array Value) (e : TypeId), b = some g ∧ w.heap[g]? = some (.cells arr e (0, 0)) ∧ rows.length * k ≤ arr.size ∧
      (∀ r, r ∈ rows → r.length = k) ∧ ∀ (i : Nat) (r : List C) (j : Nat) (c : C), rows[i]? = some r → r[j]? = some c → ∃ u : Value, arr[i * k + j]? = some u ∧ Rd w G u c
  | .tr k _ rows => (b = Option.none ∧ rows = []) ∨ ∃ (g : Nat) (arr : Array Value) (e : TypeId), b = some g ∧ w.heap[g]? = some (.cells arr e (0, 0)) ∧ rows.length * k ≤ arr.size ∧
      (∀ r, r ∈ rows → r.length = k) ∧ TreeOk w G arr k rows S g
end

def Obj.like : Obj → Obj → Prop
  | .none, _ => True
  | .box _, .box _ => True
  | .row k rows, o => ∃ n, o.dims = some (k, n) ∧ rows.length ≤ n
  | .tr k v rows, .tr k' v' rows' => k' = k ∧ rows.length ≤ rows'.length ∧ v ≤ v' ∧ (v = v' → rows = rows')
  | _, _ => False

theorem Obj.like_refl (o : Obj) : o.like o := by cases o <;> simp [Obj.like, Obj.dims]
theorem Obj.like_dims {o o' : Obj} {k m : Nat} (h : o.like o') (hd : o.dims = some (k, m)) : ∃ n, o'.dims = some (k, n) ∧ m ≤ n := by
  cases o with
  | none => simp [Obj.dims] at hd
  | box _ => simp [Obj.dims] at hd
  | row k0 rows => simp [Obj.dims] at hd; obtain ⟨rfl, rfl⟩ := hd; exact h
  | tr k0 v rows =>
    simp [Obj.dims] at hd; obtain ⟨rfl, rfl⟩ := hd
    cases o' with
    | tr k1 v1 rows1 => obtain ⟨rfl, h1, _⟩ := h; exact ⟨_, rfl, h1⟩
    | _ => exact h.elim

/-- What a step must keep for the abstract values to stay. -/
structure Keeps (w w' : World) (G G' : Nat → Prop) (O O' : Nat → Obj) (blk blk' : Nat → Option Nat) : Prop where
  good : ∀ b, G b → G' b
  cell : ∀ (ad : Addr) (u : Value), G ad.block → w.cell? ad = some u → w'.cell? ad = some u
  like : ∀ id, O id ≠ .none → (O id).like (O' id) ∧ blk' id = blk id
  rows : ∀ id, O id ≠ .none → ∀ b arr e, blk id = some b → w.heap[b]? = some (.cells arr e (0, 0)) → ∃ arr' : Array Value, w'.heap[b]? = some (.cells arr' e (0, 0)) ∧ arr'.size = arr.size
  subs : ∀ id k v rows, O id = .tr k v rows → O' id = .tr k v rows → ∀ b, blk id = some b → w'.heap[b]? = w.heap[b]?

section
variable {w w' : World} {G G' : Nat → Prop} {O O' : Nat → Obj} {blk blk' : Nat → Option Nat} {v : Value} {x : AV}

theorem SubAt.keep (K : Keeps w w' G G' O O' blk blk') {id k0 ver : Nat} {rows : List (List C)} {i j k n : Nat} (h1 : O id = .tr k0 ver rows) (h2 : O' id = .tr k0 ver rows) (h : SubAt w (blk id) k0 rows i j k n v) : SubAt w' (blk' id) k0 rows i j k n v := by
  obtain ⟨q, r, c, e1, e2, e3⟩ := h
  have hk := (K.like id (by rw [h1]; simp)).2
  refine ⟨q, r, c, hk.trans e1, ?_, e3⟩
  have := K.subs id k0 ver rows h1 h2 q e1
  rw [World.cell?_of_block (a := ⟨q, i * k0 + j, none⟩) this]; exact e2

theorem RV1.keep (K : Keeps w w' G G' O O' blk blk') (h : RV1 w G O blk v x) : RV1 w' G' O' blk' v x := by
  cases x with
  | any => trivial
  | und => exact h
  | c x => exact Rd.mono h K.good K.cell
  | nil k => exact h
  | clip k rows => obtain ⟨a, n, e, hr⟩ := h; exact ⟨a, n, e, hr.mono K.good K.cell⟩
  | fn f l => exact h
  | cut id k lo n =>
    obtain ⟨m, A, c, ho, hle, hv, h1, h2, h3⟩ := h
    obtain ⟨hl, hk⟩ := K.like id (by intro e; rw [e] at ho; cases ho)
    obtain ⟨m', hm', hle'⟩ := Obj.like_dims hl ho
    exact ⟨m', A, c, hm', by omega, hv, h1, h2, fun hn => let ⟨b, hb, hA⟩ := h3 hn; ⟨b, hk.trans hb, hA⟩⟩
  | box id off =>
    obtain ⟨b, cells, ho, hb, e⟩ := h
    obtain ⟨hl, hk⟩ := K.like id (by rw [ho]; simp)
    rw [ho] at hl
    cases hO : O' id with
    | box cells' => exact ⟨b, cells', hO, hk.trans hb, e⟩
    | none => rw [hO] at hl; exact hl.elim
    | row k rows => rw [hO] at hl; exact hl.elim
    | tr k v rows => rw [hO] at hl; exact hl.elim
  | row id k i off =>
    obtain ⟨b, m, ho, hb, e⟩ := h
    obtain ⟨hl, hk⟩ := K.like id (by intro e; rw [e] at ho; cases ho)
    obtain ⟨n, hn, _⟩ := Obj.like_dims hl ho
    exact ⟨b, n, hn, hk.trans hb, e⟩
  | elt cs =>
    obtain ⟨ad, e, hc⟩ := h
    refine ⟨ad, e, fun j c hj => ?_⟩
    obtain ⟨hg, u, hu, hr⟩ := hc j c hj
    exact ⟨K.good _ hg, u, K.cell _ _ (by rw [block_add]; exact hg) hu, hr.mono K.good K.cell⟩
  | own id k n =>
    obtain ⟨m, ho, hn, h⟩ := h
    have hne : O id ≠ .none := by intro e; rw [e] at ho; cases ho
    obtain ⟨hl, hk⟩ := K.like id hne
    obtain ⟨m', hm', hle⟩ := Obj.like_dims hl ho
    refine ⟨m', hm', by omega, ?_⟩
    rcases h with ⟨hb, h0, e⟩ | ⟨b, cap, arr, e, hb, hv, h1, h2, hh, hs⟩
    · exact .inl ⟨hk.trans hb, h0, e⟩
    · obtain ⟨arr', hh', hs'⟩ := K.rows id hne b arr e hb hh
      exact .inr ⟨b, cap, arr', e, hk.trans hb, hv, h1, h2, hh', by omega⟩
  | agg l => exact h
  | tup l => exact h
  | sub id ver i j k n =>
    obtain ⟨k0, ver', rows, ho, hle, h⟩ := h
    obtain ⟨hl, hk⟩ := K.like id (by rw [ho]; simp)
    rw [ho] at hl
    cases hO : O' id with
    | tr k1 v1 rows1 =>
      rw [hO] at hl
      obtain ⟨rfl, h1, h2, h3⟩ := hl
      refine ⟨k1, v1, rows1, hO, by omega, fun e => ?_⟩
      have e2 : ver = ver' := by omega
      have e3 : ver' = v1 := by omega
      obtain rfl := h3 e3
      subst e3
      exact (h e2).keep K ho hO
    | box _ => rw [hO] at hl; exact hl.elim
    | none => rw [hO] at hl; exact hl.elim
    | row k rows => rw [hO] at hl; exact hl.elim
  | srow id ver i j k i' off =>
    obtain ⟨k0, ver', rows, ho, hle, h⟩ := h
    obtain ⟨hl, hk⟩ := K.like id (by rw [ho]; simp)
    rw [ho] at hl
    cases hO : O' id with
    | tr k1 v1 rows1 =>
      rw [hO] at hl
      obtain ⟨rfl, h1, h2, h3⟩ := hl
      refine ⟨k1, v1, rows1, hO, by omega, fun e => ?_⟩
      have e2 : ver = ver' := by omega
      have e3 : ver' = v1 := by omega
      obtain rfl := h3 e3
      subst e3
      obtain ⟨b, len, cap, n, hs, hv⟩ := h e2
      exact ⟨b, len, cap, n, hs.keep K ho hO, hv⟩
    | box _ => rw [hO] at hl; exact hl.elim
    | none => rw [hO] at hl; exact hl.elim
    | row k rows => rw [hO] at hl; exact hl.elim

theorem RV2.keep (K : Keeps w w' G G' O O' blk blk') (h : RV2 w G O blk v x) : RV2 w' G' O' blk' v x := by
  cases x
  case agg l =>
    obtain ⟨arr, e, hs, hx⟩ := h
    exact ⟨arr, e, hs, fun j x hj => let ⟨u, hu, hr⟩ := hx j x hj; ⟨u, hu, hr.keep K⟩⟩
  case fn f l =>
    obtain ⟨arr, e, hs, hx⟩ := h
    exact ⟨arr, e, hs, fun j x hj => let ⟨u, hu, hr⟩ := hx j x hj; ⟨u, hu, hr.keep K⟩⟩
  all_goals (simp only [RV2] at h ⊢; exact RV1.keep K h)

theorem RV.keep (K : Keeps w w' G G' O O' blk blk') (h : RV w G O blk v x) : RV w' G' O' blk' v x := by
  cases x
  case tup l =>
    obtain ⟨arr, e, hs, hx⟩ := h
    exact ⟨arr, e, hs, fun j x hj => let ⟨u, hu, hr⟩ := hx j x hj; ⟨u, hu, hr.keep K⟩⟩
  all_goals (simp only [RV] at h ⊢; exact RV2.keep K h)
end

/-- Where the objects lie: the block of each, and the blocks that its cells own. -/
structure Lay where
  root : Nat → Option Nat
  sub : Nat → Nat → Prop
instance : CoeFun Lay fun _ => Nat → Option Nat := ⟨Lay.root⟩
instance : Coe Lay (Nat → Option Nat) := ⟨Lay.root⟩
def Lay.fp (L : Lay) (id b : Nat) : Prop := L.root id = some b ∨ L.sub id b
def Lay.upd (L : Lay) (d : Nat) (r : Option Nat) (S : Nat → Prop) : Lay := ⟨fun i => if i = d then r else L.root i, fun i => if i = d then S else L.sub i⟩
theorem Lay.upd_root (L : Lay) (d : Nat) (r : Option Nat) (S : Nat → Prop) (i : Nat) : (L.upd d r S).root i = if i = d then r else L.root i := rfl
theorem Lay.upd_sub (L : Lay) (d : Nat) (r : Option Nat) (S : Nat → Prop) (i : Nat) : (L.upd d r S).sub i = if i = d then S else L.sub i := rfl
theorem Lay.upd_fp (L : Lay) (d : Nat) (r : Option Nat) (S : Nat → Prop) (i b : Nat) : (L.upd d r S).fp i b = if i = d then (r = some b ∨ S b) else L.fp i b := by
  unfold Lay.fp; rw [Lay.upd_root, Lay.upd_sub]; split <;> rfl

/-- From this number on a slot holds what the call was given. -/
def slotM : Nat := 1000000

/-- The call's own frame: the world at its start, the blocks that its arguments read, those that they own, how many temporaries it has, what it was given. -/
structure Ghost where
  w0 : World
  G0 : Nat → Prop
  F0 : Nat → Prop
  N : Nat
  vs : Array Value

def Ghost.val (g : Ghost) (a : Act) (t : Nat) : Value := if t < slotM then a.tmps.getD t undef else g.vs.getD (t - slotM) undef

def Good (g : Ghost) (O : Nat → Obj) (L : Lay) (w : World) (b : Nat) : Prop :=
  (g.G0 b ∨ (g.w0.heap.size ≤ b ∧ b < w.heap.size)) ∧ ∀ id, O id ≠ .none → ¬ L.fp id b

structure Repr (g : Ghost) (s : St) (a : Act) (w : World) (L : Lay) : Prop where
  size : a.tmps.size = g.N
  small : g.N ≤ slotM
  defers : a.defers = []
  below : Off g.F0 g.w0 w
  g0 : ∀ b, g.G0 b → b < g.w0.heap.size
  f0 : ∀ b, g.F0 b → b < g.w0.heap.size
  g0f : ∀ b, g.G0 b → ¬ g.F0 b
  env : ∀ t, RV w (Good g s.objs L w) s.objs L (g.val a t) (s.env t)
  objs : ∀ id, ObjOk w (Good g s.objs L w) s.objs L (L.sub id) (L id) (s.objs id)
  new : ∀ id b, s.objs id ≠ .none → L.fp id b → (g.F0 b ∨ g.w0.heap.size ≤ b) ∧ b < w.heap.size
  inj : ∀ i j b, s.objs i ≠ .none → s.objs j ≠ .none → L.fp i b → L.fp j b → i = j
  apart : ∀ id b, s.objs id ≠ .none → L.root id = some b → ¬ L.sub id b

end Go.Proofs.Ytenfgllkjgfjpaa
