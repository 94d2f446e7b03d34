/- The abstract machine, part 1: what the cells of memory hold, as plain data; the relation between a state of the model and an abstract state; that it is kept when memory grows. -/
import Derived.Below
import Derived.Calls
import Derived.Laws.AppendOwn
import Derived.Laws.OwnMore
import Derived.IntWalk
set_option linter.all false
namespace Go.Proofs.Ytenfgllkjgfjpaa
open Go.RowKit

/-- What one cell holds, read to its end. -/
inductive C where
  | i (n : Int)
  | b (v : Bool)
  | u (n : Nat)
  | s (bs : ByteArray)
  | sl (k : Nat) (rows : List (List C))
  deriving Inhabited

def inI (n : Int) : Prop := -9223372036854775808 ≤ n ∧ n ≤ 9223372036854775807

theorem inI_of {n : Int} (h1 : -9223372036854775808 ≤ n) (h2 : n ≤ 9223372036854775807) : inI n := ⟨h1, h2⟩
theorem wrap_inI {n : Int} (h : inI n) : IntKind.i64.wrap n = n := IntWalk.i64_in n h

/-- The value v reads in the world w as c, by blocks that are G. -/
inductive Rd (w : World) (G : Nat → Prop) : Value → C → Prop where
  | i {n : Int} : inI n → Rd w G (.int .i64 n) (.i n)
  | b {v : Bool} : Rd w G (.bool v) (.b v)
  | u {n : Nat} : n < 256 → Rd w G (.int .u8 n) (.u n)
  | s {bs : ByteArray} : bs.size ≤ maxLen → Rd w G (.string bs) (.s bs)
  | sl {a : Option Addr} {len cap k : Nat} {rows : List (List C)} (vals : Nat → Nat → Value) :
      rows.length = len → len ≤ cap → cap ≤ maxLen → (∀ r, r ∈ rows → r.length = k) → (0 < len → a.isSome = true) →
      (∀ i r, rows[i]? = some r → ∀ j c, r[j]? = some c → ∃ ad, a = some ad ∧ G ad.block ∧ w.cell? (ad.add (i * k + j)) = some (vals i j)) →
      (∀ i r, rows[i]? = some r → ∀ j c, r[j]? = some c → Rd w G (vals i j) c) →
      Rd w G (.slice a len cap) (.sl k rows)


theorem block_add (a : Addr) (n : Nat) : (a.add n).block = a.block := by unfold Addr.add; split <;> rfl
theorem add_add (a : Addr) (i j : Nat) : (a.add i).add j = a.add (i + j) := by
  unfold Addr.add
  by_cases hi : i = 0 <;> by_cases hj : j = 0 <;> simp [hi, hj, Nat.add_assoc]
theorem add_lit (g o n : Nat) : (⟨g, o, none⟩ : Addr).add n = ⟨g, o + n, none⟩ := by
  unfold Addr.add; split <;> simp_all

theorem Rd.mono {w w' : World} {G G' : Nat → Prop} {v : Value} {c : C} (h : Rd w G v c) (hG : ∀ b, G b → G' b)
    (hc : ∀ (ad : Addr) (u : Value), G ad.block → w.cell? ad = some u → w'.cell? ad = some u) : Rd w' G' v c := by
  induction h with
  | i h => exact .i h
  | b => exact .b
  | u h => exact .u h
  | s h => exact .s h
  | sl vals h1 h2 h3 h4 h5 h6 _ ih =>
    refine .sl vals h1 h2 h3 h4 h5 (fun i r hr j c hj => ?_) ih
    obtain ⟨ad, e, g, hcell⟩ := h6 i r hr j c hj
    exact ⟨ad, e, hG _ g, hc _ _ (by rw [block_add]; exact g) hcell⟩

theorem Rd.one {w : World} {G : Nat → Prop} {v : Value} {c : C} (h : Rd w G v c) : v.oneCell' = true := by
  cases h <;> rfl
theorem Rd.cells {w : World} {G : Nat → Prop} {v : Value} {c : C} (h : Rd w G v c) : v.cells = #[v] := by
  cases h <;> rfl

/-- Bounds that every readable cell meets. -/
def C.WF : C → Prop
  | .i n => inI n
  | .b _ => True
  | .u n => n < 256
  | .s bs => bs.size ≤ maxLen
  | .sl k rows => rows.length ≤ maxLen ∧ ∀ r, r ∈ rows → r.length = k ∧ ∀ c, c ∈ r → c.WF
termination_by c => SizeOf.sizeOf c
decreasing_by
  have h1 := List.sizeOf_lt_of_mem ‹_ ∈ rows›
  have h2 := List.sizeOf_lt_of_mem ‹_ ∈ r›
  simp only [C.sl.sizeOf_spec]
  omega

theorem Rd.wf {w : World} {G : Nat → Prop} {v : Value} {c : C} (h : Rd w G v c) : c.WF := by
  induction h with
  | i h => simpa [C.WF] using h
  | b => simp [C.WF]
  | u h => simpa [C.WF] using h
  | s h => simpa [C.WF] using h
  | sl vals h1 h2 h3 h4 h5 h6 _ ih =>
    simp only [C.WF]
    refine ⟨by omega, fun r hr => ⟨h4 r hr, fun c hc => ?_⟩⟩
    obtain ⟨i, hi⟩ := List.getElem?_of_mem hr
    obtain ⟨j, hj⟩ := List.getElem?_of_mem hc
    exact ih i r hi j c hj

/-- Abstract values: what a temporary holds. 'own', 'row', 'box' point to the objects of the call's own. -/
inductive AV where
  | any
  | und
  | c (x : C)
  | nil
  | clip (k : Nat) (rows : List (List C))
  | box (id off : Nat)
  | row (id k : Nat) (i : Int) (off : Nat)
  | elt (cs : List C)
  | own (id k n : Nat)
  | agg (l : List AV)
  | tup (l : List AV)
  deriving Inhabited

inductive Obj where
  | none
  | box (cells : List AV)
  | row (k : Nat) (rows : List (List C))
  deriving Inhabited

structure St where
  env : Nat → AV
  objs : Nat → Obj

def upd {α : Type} (k : Nat) (v : α) (f : Nat → α) : Nat → α := fun n => if n = k then v else f n

def look {α : Type} (d : α) : List (Nat × α) → Nat → α
  | [], _ => d
  | (k, v) :: l, n => if n = k then v else look d l n

section
variable (w : World) (G : Nat → Prop) (O : Nat → Obj) (blk : Nat → Option Nat)

def RV1 (v : Value) : AV → Prop
  | .any => True
  | .und => v = undef
  | .c x => Rd w G v x
  | .nil => v = .slice Option.none 0 0
  | .clip k rows => ∃ a n, v = .slice a n n ∧ Rd w G v (.sl k rows)
  | .box id off => ∃ b cells, O id = .box cells ∧ blk id = some b ∧ v = .pointer (some ⟨b, off, Option.none⟩)
  | .row id k i off => ∃ b rows, O id = .row k rows ∧ blk id = some b ∧ v = .pointer (some ⟨b, i.toNat * k + off, Option.none⟩)
  | .elt cs => ∃ ad, v = .pointer (some ad) ∧ ∀ j c, cs[j]? = some c → G ad.block ∧ ∃ u, w.cell? (ad.add j) = some u ∧ Rd w G u c
  | .own id k n => ∃ rows, O id = .row k rows ∧ n ≤ rows.length ∧
      ((blk id = Option.none ∧ n = 0 ∧ v = .slice Option.none 0 0) ∨
       ∃ b cap arr e, blk id = some b ∧ v = .slice (some ⟨b, 0, Option.none⟩) n cap ∧ n ≤ cap ∧ cap ≤ maxLen ∧ w.heap[b]? = some (.cells arr e (0, 0)) ∧ cap * k ≤ arr.size)
  | .agg _ => False
  | .tup _ => False

def RV2 (v : Value) : AV → Prop
  | .agg l => ∃ arr : Array Value, v = .agg arr ∧ arr.size = l.length ∧ ∀ (j : Nat) (x : AV), l[j]? = some x → ∃ u : Value, arr[j]? = some u ∧ RV1 w G O blk u x
  | x => RV1 w G O blk v x

def RV (v : Value) : AV → Prop
  | .tup l => ∃ arr : Array Value, v = .tuple arr ∧ arr.size = l.length ∧ ∀ (j : Nat) (x : AV), l[j]? = some x → ∃ u : Value, arr[j]? = some u ∧ RV2 w G O blk u x
  | x => RV2 w G O blk v x

/-- The block b (none: there is none yet) holds the object. -/
def ObjOk (b : Option Nat) : Obj → Prop
  | .none => True
  | .box cells => ∃ (g : Nat) (arr : Array Value) (e : TypeId), b = some g ∧ w.heap[g]? = some (.cells arr e (0, 0)) ∧ arr.size = cells.length ∧
      ∀ (j : Nat) (x : AV), cells[j]? = some x → ∃ u : Value, arr[j]? = some u ∧ RV1 w G O blk u x
  | .row k rows => (b = Option.none ∧ rows = []) ∨ ∃ (g : Nat) (arr : Array Value) (e : TypeId), b = some g ∧ w.heap[g]? = some (.cells arr e (0, 0)) ∧ rows.length * k ≤ arr.size ∧
      (∀ r, r ∈ rows → r.length = k) ∧ ∀ (i : Nat) (r : List C) (j : Nat) (c : C), rows[i]? = some r → r[j]? = some c → ∃ u : Value, arr[i * k + j]? = some u ∧ Rd w G u c
end

def Obj.like : Obj → Obj → Prop
  | .none, _ => True
  | .box _, .box _ => True
  | .row k rows, .row k' rows' => k' = k ∧ rows.length ≤ rows'.length
  | _, _ => False

theorem Obj.like_refl (o : Obj) : o.like o := by cases o <;> simp [Obj.like]

/-- What a step must keep for the abstract values to stay. -/
structure Keeps (w w' : World) (G G' : Nat → Prop) (O O' : Nat → Obj) (blk blk' : Nat → Option Nat) : Prop where
  good : ∀ b, G b → G' b
  cell : ∀ (ad : Addr) (u : Value), G ad.block → w.cell? ad = some u → w'.cell? ad = some u
  like : ∀ id, O id ≠ .none → (O id).like (O' id) ∧ blk' id = blk id
  rows : ∀ id, O id ≠ .none → ∀ b arr e, blk id = some b → w.heap[b]? = some (.cells arr e (0, 0)) → ∃ arr' : Array Value, w'.heap[b]? = some (.cells arr' e (0, 0)) ∧ arr'.size = arr.size

section
variable {w w' : World} {G G' : Nat → Prop} {O O' : Nat → Obj} {blk blk' : Nat → Option Nat} {v : Value} {x : AV}

theorem RV1.keep (K : Keeps w w' G G' O O' blk blk') (h : RV1 w G O blk v x) : RV1 w' G' O' blk' v x := by
  cases x with
  | any => trivial
  | und => exact h
  | c x => exact Rd.mono h K.good K.cell
  | nil => exact h
  | clip k rows => obtain ⟨a, n, e, hr⟩ := h; exact ⟨a, n, e, hr.mono K.good K.cell⟩
  | box id off =>
    obtain ⟨b, cells, ho, hb, e⟩ := h
    obtain ⟨hl, hk⟩ := K.like id (by rw [ho]; simp)
    rw [ho] at hl
    cases hO : O' id with
    | box cells' => exact ⟨b, cells', hO, hk.trans hb, e⟩
    | none => rw [hO] at hl; exact hl.elim
    | row k rows => rw [hO] at hl; exact hl.elim
  | row id k i off =>
    obtain ⟨b, rows, ho, hb, e⟩ := h
    obtain ⟨hl, hk⟩ := K.like id (by rw [ho]; simp)
    rw [ho] at hl
    cases hO : O' id with
    | box cells' => rw [hO] at hl; exact hl.elim
    | none => rw [hO] at hl; exact hl.elim
    | row k' rows' => rw [hO] at hl; obtain ⟨rfl, _⟩ := hl; exact ⟨b, rows', hO, hk.trans hb, e⟩
  | elt cs =>
    obtain ⟨ad, e, hc⟩ := h
    refine ⟨ad, e, fun j c hj => ?_⟩
    obtain ⟨hg, u, hu, hr⟩ := hc j c hj
    exact ⟨K.good _ hg, u, K.cell _ _ (by rw [block_add]; exact hg) hu, hr.mono K.good K.cell⟩
  | own id k n =>
    obtain ⟨rows, ho, hn, h⟩ := h
    obtain ⟨hl, hk⟩ := K.like id (by rw [ho]; simp)
    rw [ho] at hl
    cases hO : O' id with
    | box cells' => rw [hO] at hl; exact hl.elim
    | none => rw [hO] at hl; exact hl.elim
    | row k' rows' =>
      rw [hO] at hl
      obtain ⟨rfl, hlen⟩ := hl
      refine ⟨rows', hO, by omega, ?_⟩
      rcases h with ⟨hb, h0, e⟩ | ⟨b, cap, arr, e, hb, hv, h1, h2, hh, hs⟩
      · exact .inl ⟨hk.trans hb, h0, e⟩
      · obtain ⟨arr', hh', hs'⟩ := K.rows id (by rw [ho]; simp) b arr e hb hh
        exact .inr ⟨b, cap, arr', e, hk.trans hb, hv, h1, h2, hh', by omega⟩
  | agg l => exact h
  | tup l => exact h

theorem RV2.keep (K : Keeps w w' G G' O O' blk blk') (h : RV2 w G O blk v x) : RV2 w' G' O' blk' v x := by
  cases x
  case agg l =>
    obtain ⟨arr, e, hs, hx⟩ := h
    exact ⟨arr, e, hs, fun j x hj => let ⟨u, hu, hr⟩ := hx j x hj; ⟨u, hu, hr.keep K⟩⟩
  all_goals (simp only [RV2] at h ⊢; exact RV1.keep K h)

theorem RV.keep (K : Keeps w w' G G' O O' blk blk') (h : RV w G O blk v x) : RV w' G' O' blk' v x := by
  cases x
  case tup l =>
    obtain ⟨arr, e, hs, hx⟩ := h
    exact ⟨arr, e, hs, fun j x hj => let ⟨u, hu, hr⟩ := hx j x hj; ⟨u, hu, hr.keep K⟩⟩
  all_goals (simp only [RV] at h ⊢; exact RV2.keep K h)
end

/-- The call's own frame: the world at its start, the blocks that its arguments read, how many temporaries it has. -/
structure Ghost where
  w0 : World
  G0 : Nat → Prop
  N : Nat

def Good (g : Ghost) (O : Nat → Obj) (blk : Nat → Option Nat) (w : World) (b : Nat) : Prop :=
  (g.G0 b ∨ (g.w0.heap.size ≤ b ∧ b < w.heap.size)) ∧ ∀ id, O id ≠ .none → blk id ≠ some b

structure Repr (g : Ghost) (s : St) (a : Act) (w : World) (blk : Nat → Option Nat) : Prop where
  size : a.tmps.size = g.N
  defers : a.defers = []
  below : Below g.w0.heap.size g.w0 w
  g0 : ∀ b, g.G0 b → b < g.w0.heap.size
  env : ∀ t, RV w (Good g s.objs blk w) s.objs blk (a.tmps.getD t undef) (s.env t)
  objs : ∀ id, ObjOk w (Good g s.objs blk w) s.objs blk (blk id) (s.objs id)
  new : ∀ id b, s.objs id ≠ .none → blk id = some b → g.w0.heap.size ≤ b ∧ b < w.heap.size
  inj : ∀ i j b, s.objs i ≠ .none → s.objs j ≠ .none → blk i = some b → blk j = some b → i = j

end Go.Proofs.Ytenfgllkjgfjpaa
