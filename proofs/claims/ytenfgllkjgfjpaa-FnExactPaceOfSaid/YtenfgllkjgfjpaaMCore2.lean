/- The abstract machine, part 2: a small language of instructions, its weakest preconditions over abstract states, and the translation of the model's code into it. -/
import Derived.Test.YtenfgllkjgfjpaaMCore1
set_option linter.all false
namespace Go.Proofs.Ytenfgllkjgfjpaa
open Go.RowKit

inductive X where
  | t (n : Nat)
  | k (a : AV)

inductive IOp where
  | mv (x : X)
  | pick (c a b : X)
  | bin (op : BinOp) (x y : X)
  | beq (neg : Bool) (x y : X)
  | isn (x : X)
  | not (x : X)
  | neg (x : X)
  | idx (k : Nat) (x i : X)
  | ida (k n : Nat) (x i : X)
  | fld (off : Nat) (x : X)
  | ld1 (x : X)
  | ldn (n : Nat) (x : X)
  | st1 (x v : X)
  | stn (n : Nat) (x v : X)
  | box (n : Nat) (x : X)
  | alloc (zs : List AV)
  | alloca (k n : Nat) (z : List C)
  | mks (k by_ : Nat) (z : List C) (l c : X)
  | bsl (k : Nat) (xs : List X)
  | bld (zs : List AV) (ps : List (Nat × Nat × X))
  | slc (k : Nat) (x : X) (lo hi mx : Option X)
  | sla (k n : Nat) (x hi : X)
  | len (x : X)
  | slen (x : X)
  | app (k by_ : Nat) (x y : X)
  | mn (xs : List X)
  | mx (xs : List X)
  | ext (i : Nat) (x : X)
  | call (f : Nat) (xs : List X)
  | ixs (x i : X)
  | callv (f : X) (xs : List X)
  | cp (k : Nat) (x y : X)
  | cap (x : X)
  | nck (x : X)
  | seq (neg : Bool) (x y : X)
  | scat (x y : X)
  | sls (x : X) (lo hi : Option X)
  | bit (op : BinOp) (x y : X)
  | binu (op : BinOp) (x y : X)
  | binw (op : BinOp) (x y : X)
  | cvt (n : Nat) (x : X)
  | mkf (f : Nat) (xs : List X)
  | bad

structure Ins where
  g : Option (Nat × Bool)
  d : Option Nat
  op : IOp

/-- An instruction of a region that leaves its order open and changes objects: k: 0 it only reads, 1 it makes an object, 2 it changes one; note: what it touches is kept; chk: those ahead of it from which it must stand apart. -/
structure RIns where
  k : Nat
  note : Bool
  chk : List Nat
  i : Ins

inductive SC where
  | skip
  | reg (l : List Ins)
  | regq (l : List Ins)
  | rege (l : List RIns)
  | seq (a b : SC)
  | cond (x : X) (a b : SC)
  | block (id : Nat) (c : SC)
  | loop (c : SC)
  | exit (id : Nat)
  | ret

inductive Ex where
  | normal
  | exit (id : Nat)
  | ret

def St.ev (s : St) : X → AV
  | .t n => s.env n
  | .k a => a
def St.put (s : St) (d : Option Nat) (v : AV) : St :=
  match d with
  | some d => ⟨upd d v s.env, s.objs⟩
  | none => s
def St.ob (s : St) (id : Nat) : Obj := s.objs id
def St.setOb (s : St) (id : Nat) (o : Obj) : St := ⟨s.env, upd id o s.objs⟩

def Obj.isNone : Obj → Bool | .none => true | _ => false
def Obj.tree : Obj → Bool | .tr _ _ _ => true | _ => false

/-- A stored value is that of one cell. -/
def AV.cellOk : AV → Bool
  | .any | .und | .agg _ | .tup _ | .fn _ _ | .sub _ _ _ _ _ _ | .srow _ _ _ _ _ _ _ => false
  | _ => true
/-- Plain data: nothing in it is owned. -/
def C.plain : C → Bool
  | .ow _ _ | .ot _ _ | .bx _ | .jk => false
  | _ => true
def AV.toC : AV → Option C
  | .c x => some x
  | .clip k rows => some (.sl k rows)
  | .nil k => some (.sl k [])
  | _ => none
def AV.cellsOf : AV → List AV
  | .agg l => l
  | x => [x]

/-- No references to the object id. -/
def AV.free1 (id : Nat) : AV → Bool
  | .box i _ | .row i _ _ _ | .own i _ _ | .sub i _ _ _ _ _ | .srow i _ _ _ _ _ _ | .cut i _ _ _ => i != id
  | _ => true
def AV.kill1 (id : Nat) (x : AV) : AV := if x.free1 id then x else .any
def AV.free2 (id : Nat) : AV → Bool
  | .agg m => m.all (AV.free1 id)
  | .fn _ m => m.all (AV.free1 id)
  | y => y.free1 id
def AV.kill (id : Nat) : AV → AV
  | .agg l => .agg (l.map (AV.kill1 id))
  | .fn f l => if l.all (AV.free1 id) then .fn f l else .any
  | .tup l => if l.all (AV.free2 id) then .tup l else .any
  | x => x.kill1 id
def Obj.kill (id : Nat) : Obj → Obj
  | .box l => .box (l.map (AV.kill1 id))
  | o => o
/-- The object id laid anew; what pointed to it is forgotten. -/
def St.renew (s : St) (id : Nat) (o : Obj) : St := ⟨fun t => (s.env t).kill id, upd id o fun i => (s.objs i).kill id⟩
/-- The object id is given away: what pointed to it is forgotten. -/
def St.drop (s : St) (id : Nat) : St := s.renew id .none
def St.drops (s : St) : List Nat → St
  | [] => s
  | i :: l => (s.drop i).drops l

/-- What is put into a cell of a tree: data, or a slice of the call's own, which is given away. -/
def pk1 (s : St) : AV → Option (C × List Nat)
  | .c x => if x.plain then some (x, []) else none
  | .clip k rows => some (.sl k rows, [])
  | .nil k => some (.sl k [], [])
  | .own id k n => match s.ob id with
    | .row k' rows => if k' = k then some (.ow k (rows.take n), [id]) else none
    | .tr k' _ rows => if k' = k then some (.ot k (rows.take n), [id]) else none
    | _ => none
  | _ => none
def pkl (s : St) : List AV → Option (List C × List Nat)
  | [] => some ([], [])
  | x :: l => match pk1 s x, pkl s l with
    | some (c, a), some (cs, as) => some (c :: cs, a ++ as)
    | _, _ => none
def pks (s : St) : List AV → Option (List (List C) × List Nat)
  | [] => some ([], [])
  | x :: l => match pkl s x.cellsOf, pks s l with
    | some (c, a), some (cs, as) => some (c :: cs, a ++ as)
    | _, _ => none

/-- What is read out of a cell of a tree. -/
def C.av (id ver : Nat) (i : Int) (j : Nat) : C → AV
  | .ow k rows => .sub id ver i j k rows.length
  | .ot k rows => .sub id ver i j k rows.length
  | .bx _ => .any
  | .jk => .any
  | x => .c x
/-- What is read out of a cell further down: only data. -/
def C.av2 : C → AV
  | .ow _ _ | .ot _ _ | .bx _ | .jk => .any
  | x => .c x
def avs (id ver : Nat) (i : Int) : Nat → List C → List AV
  | _, [] => []
  | j, c :: l => c.av id ver i j :: avs id ver i (j + 1) l
/-- The cell (i, j). -/
def cellAt (rows : List (List C)) (i j : Nat) : Option C := match rows[i]? with | some r => r[j]? | none => none
def setAt (rows : List (List C)) (i j : Nat) (c : C) : List (List C) := rows.set i ((rows.getD i []).set j c)

def binI (op : BinOp) (a b : Int) (k : AV → Prop) : Prop :=
  match op with
  | .add => inI (a + b) ∧ k (.c (.i (a + b)))
  | .sub => inI (a - b) ∧ k (.c (.i (a - b)))
  | .mul => inI (a * b) ∧ k (.c (.i (a * b)))
  | .quo => b ≠ 0 ∧ inI (a.tdiv b) ∧ k (.c (.i (a.tdiv b)))
  | .rem => b ≠ 0 ∧ inI (a.tmod b) ∧ k (.c (.i (a.tmod b)))
  | .eql => k (.c (.b (decide (a = b))))
  | .neq => k (.c (.b (!decide (a = b))))
  | .lss => k (.c (.b (decide (a < b))))
  | .leq => k (.c (.b (decide (a ≤ b))))
  | .gtr => k (.c (.b (decide (b < a))))
  | .geq => k (.c (.b (decide (b ≤ a))))
  | _ => False

def binP (op : BinOp) (x y : AV) (k : AV → Prop) : Prop :=
  match x, y with
  | .c (.i a), .c (.i b) => binI op a b k
  | _, _ => False

def beqP (neg : Bool) (x y : AV) (k : AV → Prop) : Prop :=
  match x, y with
  | .c (.b a), .c (.b b) => k (.c (.b (if neg then !decide (a = b) else decide (a = b))))
  | _, _ => False

/-- 's == nil': of a slice that reads as nothing it is not known. -/
def isnP (x : AV) (k : AV → Prop) : Prop :=
  match x with
  | .c (.sl _ rows) => ∀ v : Bool, (v = true → rows = []) → k (.c (.b v))
  | .nil _ => k (.c (.b true))
  | .own _ _ n => ∀ v : Bool, (v = true → n = 0) → k (.c (.b v))
  | _ => False

def pickP (c a b : AV) (k : AV → Prop) : Prop :=
  match c with
  | .c (.b t) => match a, b with
    | .c (.b x), .c (.b y) => k (.c (.b (cond t x y)))
    | x, y => (t = true → k x) ∧ (t = false → k y)
  | _ => False

def idxP (k : Nat) (s : St) (x i : AV) (K : AV → Prop) : Prop :=
  match x, i with
  | .c (.sl k' rows), .c (.i n) => k' = k ∧ 0 ≤ n ∧ n < rows.length ∧ K (.elt (rows.getD n.toNat []))
  | .clip k' rows, .c (.i n) => k' = k ∧ 0 ≤ n ∧ n < rows.length ∧ K (.elt (rows.getD n.toNat []))
  | .own id k' m, .c (.i n) => k' = k ∧ 0 ≤ n ∧ n < (m : Int) ∧ K (.row id k n 0)
  | .cut id k' lo m, .c (.i n) => k' = k ∧ 0 ≤ n ∧ n < (m : Int) ∧ K (.row id k (lo + n) 0)
  | .sub id ver i j k' m, .c (.i n) => match s.ob id with
    | .tr _ ver' _ => ver' = ver ∧ k' = k ∧ 0 ≤ n ∧ n < (m : Int) ∧ K (.srow id ver i j k n 0)
    | _ => False
  | _, _ => False

def idaP (k n : Nat) (x i : AV) (K : AV → Prop) : Prop :=
  match x, i with
  | .row id k' j 0, .c (.i m) => k' = k ∧ j = 0 ∧ 0 ≤ m ∧ m < (n : Int) ∧ K (.row id k m 0)
  | _, _ => False

def fldP (off : Nat) (s : St) (x : AV) (K : AV → Prop) : Prop :=
  match x with
  | .box id o => K (.box id (o + off))
  | .row id k i o => K (.row id k i (o + off))
  | .elt cs => K (.elt (cs.drop off))
  | .srow id ver i j k i' o => match s.ob id with
    | .tr _ ver' _ => ver' = ver ∧ K (.srow id ver i j k i' (o + off))
    | _ => False
  | _ => False

def ld1P (s : St) (x : AV) (K : AV → Prop) : Prop :=
  match x with
  | .box id o => match s.ob id with
    | .box cells => match cells[o]? with
      | some v => K v
      | none => False
    | _ => False
  | .row id k i o => match s.ob id with
    | .row k' rows => k' = k ∧ i.toNat < rows.length ∧ o < k ∧ K (.c ((rows.getD i.toNat []).getD o default))
    | .tr k' ver rows => k' = k ∧ i.toNat < rows.length ∧ o < k ∧ K (((rows.getD i.toNat []).getD o default).av id ver i o)
    | _ => False
  | .srow id ver i j k i' o => match s.ob id with
    | .tr _ ver' rows => ver' = ver ∧ match cellAt rows i.toNat j with
      | some (.ow k' rs) => k' = k ∧ i'.toNat < rs.length ∧ o < k ∧ K (.c ((rs.getD i'.toNat []).getD o default))
      | some (.ot k' rs) => k' = k ∧ i'.toNat < rs.length ∧ o < k ∧ K ((rs.getD i'.toNat []).getD o default).av2
      | _ => False
    | _ => False
  | .elt cs => match cs with
    | c :: _ => K (.c c)
    | [] => False
  | _ => False

def ldnP (n : Nat) (s : St) (x : AV) (K : AV → Prop) : Prop :=
  match x with
  | .box id o => match s.ob id with
    | .box cells => o + n ≤ cells.length ∧ K (.agg ((cells.drop o).take n))
    | _ => False
  | .row id k i o => match s.ob id with
    | .row k' rows => k' = k ∧ i.toNat < rows.length ∧ o + n ≤ k ∧ K (.agg ((((rows.getD i.toNat []).drop o).take n).map .c))
    | .tr k' ver rows => k' = k ∧ i.toNat < rows.length ∧ o + n ≤ k ∧ K (.agg (avs id ver i o (((rows.getD i.toNat []).drop o).take n)))
    | _ => False
  | .srow id ver i j k i' o => match s.ob id with
    | .tr _ ver' rows => ver' = ver ∧ match cellAt rows i.toNat j with
      | some (.ow k' rs) => k' = k ∧ i'.toNat < rs.length ∧ o + n ≤ k ∧ K (.agg ((((rs.getD i'.toNat []).drop o).take n).map .c))
      | some (.ot k' rs) => k' = k ∧ i'.toNat < rs.length ∧ o + n ≤ k ∧ K (.agg ((((rs.getD i'.toNat []).drop o).take n).map C.av2))
      | _ => False
    | _ => False
  | .elt cs => n ≤ cs.length ∧ K (.agg ((cs.take n).map .c))
  | _ => False

def st1P (s : St) (x v : AV) (K : St → Prop) : Prop :=
  match x with
  | .box id o => match s.ob id with
    | .box cells => o < cells.length ∧ v.cellOk = true ∧ K (s.setOb id (.box (cells.set o v)))
    | _ => False
  | .row id k i o => match s.ob id with
    | .row k' rows => match v.toC with
      | some c => k' = k ∧ i.toNat < rows.length ∧ o < k ∧ K (s.setOb id (.row k (rows.set i.toNat ((rows.getD i.toNat []).set o c))))
      | none => False
    | .tr k' ver rows => match pk1 s v with
      | some (c, ids) => k' = k ∧ i.toNat < rows.length ∧ o < k ∧ ids.Nodup ∧ id ∉ ids ∧ K ((s.drops ids).setOb id (.tr k (ver + 1) (setAt rows i.toNat o c)))
      | none => False
    | _ => False
  | .srow id ver i j k i' o => match s.ob id with
    | .tr k0 ver' rows => ver' = ver ∧ match cellAt rows i.toNat j with
      | some (.ow k' rs) => match v.toC with
        | some c => k' = k ∧ i'.toNat < rs.length ∧ o < k ∧ K (s.setOb id (.tr k0 (ver + 1) (setAt rows i.toNat j (.ow k (setAt rs i'.toNat o c)))))
        | none => False
      | _ => False
    | _ => False
  | _ => False

def AV.toCs : List AV → Option (List C)
  | [] => some []
  | x :: l => match x.toC, AV.toCs l with
    | some c1, some cs => some (c1 :: cs)
    | _, _ => none

def stnP (n : Nat) (s : St) (x v : AV) (K : St → Prop) : Prop :=
  match v with
  | .agg l => l.length = n ∧ match x with
    | .box id o => match s.ob id with
      | .box cells => o + n ≤ cells.length ∧ l.all AV.cellOk = true ∧ K (s.setOb id (.box (cells.take o ++ l ++ cells.drop (o + n))))
      | _ => False
    | .row id k i o => match s.ob id with
      | .row k' rows => match AV.toCs l with
        | some cs => k' = k ∧ i.toNat < rows.length ∧ o + n ≤ k ∧
          K (s.setOb id (.row k (rows.set i.toNat ((rows.getD i.toNat []).take o ++ cs ++ (rows.getD i.toNat []).drop (o + n)))))
        | none => False
      | .tr k' ver rows => match pkl s l with
        | some (cs, ids) => k' = k ∧ i.toNat < rows.length ∧ o + n ≤ k ∧ ids.Nodup ∧ id ∉ ids ∧
          K ((s.drops ids).setOb id (.tr k (ver + 1) (rows.set i.toNat ((rows.getD i.toNat []).take o ++ cs ++ (rows.getD i.toNat []).drop (o + n)))))
        | none => False
      | _ => False
    | _ => False
  | _ => False

def newP (s : St) (d : Option Nat) (o : Obj) (v : Nat → AV) (K : St → Prop) : Prop :=
  match d with
  | some d => (s.ob d).isNone = true ∧ K ⟨upd d (v d) s.env, upd d o s.objs⟩
  | none => False

def boxP (n : Nat) (s : St) (d : Option Nat) (x : AV) (K : St → Prop) : Prop :=
  x.cellsOf.length = n ∧ x.cellsOf.all AV.cellOk = true ∧ newP s d (.box x.cellsOf) (fun d => .box d 0) K

def mksP (k by_ : Nat) (z : List C) (s : St) (d : Option Nat) (l c : AV) (K : St → Prop) : Prop :=
  match l, c with
  | .c (.i n), .c (.i m) => 0 ≤ n ∧ n ≤ m ∧ (by_ : Int) * m ≤ 281474976710656 ∧ newP s d (.row k (List.replicate n.toNat z)) (fun d => .own d k n.toNat) K
  | _, _ => False

def AV.rowOf (x : AV) : Option (List C) := AV.toCs x.cellsOf
def AV.rowsOf : List AV → Option (List (List C))
  | [] => some []
  | x :: l => match x.rowOf, AV.rowsOf l with
    | some c1, some cs => some (c1 :: cs)
    | _, _ => none

def bslP (k : Nat) (xs : List AV) (s : St) (d : Option Nat) (K : St → Prop) : Prop :=
  match AV.rowsOf xs with
  | some rows => (∀ r ∈ rows, r.length = k) ∧ newP s d (.row k rows) (fun d => .own d k rows.length) K
  | none => match pks s xs with
    | some (rows, ids) => (∀ r ∈ rows, r.length = k) ∧ ids.Nodup ∧ newP (s.drops ids) d (.tr k 0 rows) (fun d => .own d k rows.length) K
    | none => False

def slcP (k : Nat) (x : AV) (lo hi mx : Option AV) (K : AV → Prop) : Prop :=
  match x, lo, hi, mx with
  | .c (.sl k' rows), some (.c (.i l)), some (.c (.i h)), none => k' = k ∧ 0 ≤ l ∧ l ≤ h ∧ h ≤ rows.length ∧ K (.c (.sl k ((rows.take h.toNat).drop l.toNat)))
  | .c (.sl k' rows), some (.c (.i l)), none, none => k' = k ∧ 0 ≤ l ∧ l ≤ rows.length ∧ K (.c (.sl k (rows.drop l.toNat)))
  | .c (.sl k' rows), none, some (.c (.i h)), none => k' = k ∧ 0 ≤ h ∧ h ≤ rows.length ∧ K (.c (.sl k (rows.take h.toNat)))
  | .c (.sl k' rows), none, some (.c (.i h)), some (.c (.i m)) => k' = k ∧ 0 ≤ h ∧ h = m ∧ h ≤ rows.length ∧ K (.clip k (rows.take h.toNat))
  | .own id k' n, none, some (.c (.i h)), none => k' = k ∧ 0 ≤ h ∧ h ≤ (n : Int) ∧ K (.own id k h.toNat)
  | .own id k' n, some (.c (.i l)), none, none => k' = k ∧ 0 ≤ l ∧ l ≤ (n : Int) ∧ K (.cut id k l.toNat (n - l.toNat))
  | .own id k' n, some (.c (.i l)), some (.c (.i h)), none => k' = k ∧ 0 ≤ l ∧ l ≤ h ∧ h ≤ (n : Int) ∧ K (.cut id k l.toNat (h.toNat - l.toNat))
  | .nil _, none, some (.c (.i h)), none => h = 0 ∧ K (.nil k)
  | .nil _, none, some (.c (.i h)), some (.c (.i m)) => h = 0 ∧ m = 0 ∧ K (.nil k)
  | _, _, _, _ => False

def slaP (k n : Nat) (s : St) (x hi : AV) (K : AV → Prop) : Prop :=
  match x, hi with
  | .row id k' j 0, .c (.i h) => match s.ob id with
    | .row _ rows => k' = k ∧ j = 0 ∧ 0 ≤ h ∧ h ≤ rows.length ∧ rows.length = n ∧ K (.own id k h.toNat)
    | _ => False
  | _, _ => False

def lenP (s : St) (x : AV) (K : AV → Prop) : Prop :=
  match x with
  | .c (.sl _ rows) => rows.length ≤ maxLen → K (.c (.i rows.length))
  | .clip _ rows => rows.length ≤ maxLen → K (.c (.i rows.length))
  | .own _ _ n => n ≤ maxLen → K (.c (.i n))
  | .cut _ _ _ n => n ≤ maxLen → K (.c (.i n))
  | .sub id ver _ _ _ n => match s.ob id with
    | .tr _ ver' _ => ver' = ver ∧ (n ≤ maxLen → K (.c (.i n)))
    | _ => False
  | .nil _ => K (.c (.i 0))
  | _ => False

def slenP (x : AV) (K : AV → Prop) : Prop :=
  match x with
  | .c (.s bs) => bs.size ≤ maxLen → K (.c (.i bs.size))
  | _ => False

def bldPs (s : St) : List (Nat × Nat × X) → List AV → (List AV → Prop) → Prop
  | [], l, K => K l
  | (o, n, x) :: ps, l, K => (s.ev x).cellsOf.length = n ∧ (s.ev x).cellsOf.all AV.cellOk = true ∧ o + n ≤ l.length ∧ bldPs s ps (l.take o ++ (s.ev x).cellsOf ++ l.drop (o + n)) K

/-- What is appended: rows that are read. -/
def srcRows (s : St) (k : Nat) : AV → Option (List (List C))
  | .c (.sl k' rows) => if k' = k then some rows else none
  | .clip k' rows => if k' = k then some rows else none
  | .own id k' n => match s.ob id with
    | .row _ rows => if k' = k then some (rows.take n) else none
    | _ => none
  | .cut id k' lo n => match s.ob id with
    | .row _ rows => if k' = k then some ((rows.drop lo).take n) else none
    | _ => none
  | .nil _ => some []
  | _ => none
/-- What is appended: a tree of the call's own, which is given away. -/
def srcTr (s : St) (k : Nat) : AV → Option (Nat × List (List C))
  | .own id k' n => match s.ob id with
    | .tr _ _ rows => if k' = k then some (id, rows.take n) else none
    | _ => none
  | _ => none

def appP (k by_ : Nat) (s : St) (d : Option Nat) (x y : AV) (K : St → Prop) : Prop :=
  match srcRows s k y with
  | some new => match x with
    | .nil _ => new.length * by_ ≤ 140737488355328 ∧ newP s d (.row k new) (fun d => .own d k new.length) K
    | .clip k' rows => k' = k ∧ (0 < new.length ∨ rows.length = 0) ∧ (rows.length + new.length) * by_ ≤ 140737488355328 ∧ newP s d (.row k (rows ++ new)) (fun d => .own d k (rows.length + new.length)) K
    | .own id k' n => match s.ob id with
      | .row _ rows => k' = k ∧ n = rows.length ∧ (rows.length + new.length) * by_ ≤ 140737488355328 ∧
          K ((s.renew id (.row k (rows ++ new))).put d (.own id k (rows.length + new.length)))
      | .tr _ _ rows => k' = k ∧ n = rows.length ∧ (rows.length + new.length) * by_ ≤ 140737488355328 ∧
          K ((s.renew id (.tr k 0 (rows ++ new))).put d (.own id k (rows.length + new.length)))
      | _ => False
    | .sub id ver i j k' n => match s.ob id with
      | .tr k0 ver' rows => ver' = ver ∧ match cellAt rows i.toNat j with
        | some (.ow k2 rs) => k' = k ∧ k2 = k ∧ (rs.length + new.length) * by_ ≤ 140737488355328 ∧ match d with
          | some d => (s.ob d).isNone = true ∧ K (((s.setOb id (.tr k0 (ver + 1) (setAt rows i.toNat j .jk))).renew d (.row k (rs ++ new))).put (some d) (.own d k (rs.length + new.length)))
          | none => False
        | some (.ot k2 rs) => k' = k ∧ k2 = k ∧ (rs.length + new.length) * by_ ≤ 140737488355328 ∧ match d with
          | some d => (s.ob d).isNone = true ∧ K (((s.setOb id (.tr k0 (ver + 1) (setAt rows i.toNat j .jk))).renew d (.tr k 0 (rs ++ new))).put (some d) (.own d k (rs.length + new.length)))
          | none => False
        | _ => False
      | _ => False
    | _ => False
  | none => match srcTr s k y with
    | some (idy, new) => match x with
      | .nil _ => new.length * by_ ≤ 140737488355328 ∧ newP (s.drop idy) d (.tr k 0 new) (fun d => .own d k new.length) K
      | .own id k' n => id ≠ idy ∧ match s.ob id with
        | .row _ rows => k' = k ∧ n = rows.length ∧ (rows.length + new.length) * by_ ≤ 140737488355328 ∧
            K (((s.drop idy).renew id (.tr k 0 (rows ++ new))).put d (.own id k (rows.length + new.length)))
        | .tr _ _ rows => k' = k ∧ n = rows.length ∧ (rows.length + new.length) * by_ ≤ 140737488355328 ∧
            K (((s.drop idy).renew id (.tr k 0 (rows ++ new))).put d (.own id k (rows.length + new.length)))
        | _ => False
      | _ => False
    | none => False

def intsOf : List AV → Option (List Int)
  | [] => some []
  | .c (.i n) :: l => (intsOf l).map (n :: ·)
  | _ => none

def mmP (f : Int → Int → Int) (l : List AV) (K : AV → Prop) : Prop :=
  match intsOf l with
  | some (n :: r) => K (.c (.i (r.foldl f n)))
  | _ => False

def extP (i : Nat) (x : AV) (K : AV → Prop) : Prop :=
  match x with
  | .tup l => match l[i]? with
    | some v => K v
    | none => False
  | _ => False

/-- The call of f, at the arguments: whatever the model's state, it returns, and the state behind it is one of K. -/
def callP (P : Program) (f : Nat) (xs : List AV) (d : Option Nat) (s : St) (K : St → Prop) : Prop :=
  ∀ (g : Ghost) (a : Act) (w : World) (blk : Lay), Repr g s a w blk → (∀ i, d = some i → i < g.N) → ∀ vs : Array Value, vs.size = xs.length →
    (∀ (j : Nat) (x : AV), xs[j]? = some x → ∃ u : Value, vs[j]? = some u ∧ RV w (Good g s.objs blk w) s.objs blk u x) →
    Calls P f vs w fun e w' => ∃ v, e = .returned v ∧ ∃ s' blk', K s' ∧ Repr g s' (a.put d v) w' blk'

/-- The call of a function value. -/
def callvP (P : Program) (f : AV) (xs : List AV) (d : Option Nat) (s : St) (K : St → Prop) : Prop :=
  match f with
  | .fn f l => (∃ fn, P.funcs[f]? = some fn ∧ fn.body.isSome = true ∧ (fn.name != "runtime.NumGoroutine") = true) ∧ callP P f (xs ++ l) d s K
  | _ => False

/-- 'copy' onto a row of the call's own. -/
def cpP (k : Nat) (s : St) (d : Option Nat) (x y : AV) (K : St → Prop) : Prop :=
  match srcRows s k y with
  | some new => match x with
    | .own id k' n => match s.ob id with
      | .row _ rows => k' = k ∧ n ≤ rows.length ∧ K ((s.setOb id (.row k (new.take n ++ rows.drop (min new.length n)))).put d (.c (.i (min new.length n : Nat))))
      | _ => False
    | _ => False
  | none => False

def capP (x : AV) (K : AV → Prop) : Prop :=
  match x with
  | .nil _ => K (.c (.i 0))
  | .clip _ rows => rows.length ≤ maxLen → K (.c (.i rows.length))
  | .c (.sl _ rows) => ∀ n : Nat, rows.length ≤ n → n ≤ maxLen → K (.c (.i n))
  | .own _ _ m => ∀ n : Nat, m ≤ n → n ≤ maxLen → K (.c (.i n))
  | _ => False

def nckP (x : AV) (K : AV → Prop) : Prop :=
  match x with
  | .box id o => K (.box id o)
  | .row id k i o => K (.row id k i o)
  | .elt cs => K (.elt cs)
  | _ => False

def seqP (neg : Bool) (x y : AV) (k : AV → Prop) : Prop :=
  match x, y with
  | .c (.s a), .c (.s b) => k (.c (.b (if neg then !decide (a = b) else decide (a = b))))
  | _, _ => False
def scatP (x y : AV) (k : AV → Prop) : Prop :=
  match x, y with
  | .c (.s a), .c (.s b) => a.size + b.size ≤ maxLen ∧ k (.c (.s (a ++ b)))
  | _, _ => False
def slsP (x : AV) (lo hi : Option AV) (K : AV → Prop) : Prop :=
  match x, lo, hi with
  | .c (.s a), some (.c (.i l)), some (.c (.i h)) => 0 ≤ l ∧ l ≤ h ∧ h ≤ a.size ∧ K (.c (.s (a.extract l.toNat h.toNat)))
  | .c (.s a), some (.c (.i l)), none => 0 ≤ l ∧ l ≤ a.size ∧ K (.c (.s (a.extract l.toNat a.size)))
  | .c (.s a), none, some (.c (.i h)) => 0 ≤ h ∧ h ≤ a.size ∧ K (.c (.s (a.extract 0 h.toNat)))
  | _, _, _ => False

def ixsP (x i : AV) (K : AV → Prop) : Prop :=
  match x, i with
  | .c (.s bs), .c (.i n) => 0 ≤ n ∧ n < bs.size ∧ K (.c (.u (bs[n.toNat]?.getD 0).toNat))
  | _, _ => False

def notP (x : AV) (K : AV → Prop) : Prop := match x with | .c (.b v) => K (.c (.b !v)) | _ => False
def negP (x : AV) (K : AV → Prop) : Prop := match x with | .c (.i v) => inI (-v) ∧ K (.c (.i (-v))) | _ => False

/-- Bits of whole numbers. -/
def iand (a b : Int) : Int := IntKind.i64.wrap (BitVec.ofInt 64 a &&& BitVec.ofInt 64 b).toNat
def ixor (a b : Int) : Int := IntKind.i64.wrap (BitVec.ofInt 64 a ^^^ BitVec.ofInt 64 b).toNat
def ishl (a n : Int) : Int := IntKind.i64.wrap (a * 2 ^ (min n.toNat 64))
def ishr (a n : Int) : Int := a.fdiv (2 ^ (min n.toNat 64))
def bitP (op : BinOp) (x y : AV) (k : AV → Prop) : Prop :=
  match x, y with
  | .c (.i a), .c (.i b) => match op with
    | .and => k (.c (.i (iand a b)))
    | .xor => k (.c (.i (ixor a b)))
    | .shl => 0 ≤ b ∧ k (.c (.i (ishl a b)))
    | .shr => 0 ≤ b ∧ k (.c (.i (ishr a b)))
    | _ => False
  | _, _ => False
def binwP (op : BinOp) (x y : AV) (k : AV → Prop) : Prop :=
  match x, y with
  | .c (.i a), .c (.i b) => match op with
    | .add => k (.c (.i (IntKind.i64.wrap (a + b))))
    | .mul => k (.c (.i (IntKind.i64.wrap (a * b))))
    | _ => False
  | _, _ => False
/-- Bytes. -/
def binuP (op : BinOp) (x y : AV) (k : AV → Prop) : Prop :=
  match x, y with
  | .c (.u a), .c (.u b) => match op with
    | .add => k (.c (.u ((a + b) % 256)))
    | .sub => k (.c (.u ((a + 256 - b) % 256)))
    | .eql => k (.c (.b (decide (a = b))))
    | .neq => k (.c (.b (!decide (a = b))))
    | .lss => k (.c (.b (decide (a < b))))
    | .leq => k (.c (.b (decide (a ≤ b))))
    | .gtr => k (.c (.b (decide (b < a))))
    | .geq => k (.c (.b (decide (b ≤ a))))
    | _ => False
  | _, _ => False
def uenc (b : UInt8) : List C := [.u b.toNat]
def cvtP (n : Nat) (s : St) (x : AV) (k : AV → Prop) : Prop :=
  match n with
  | 0 => match x with
    | .c (.u a) => k (.c (.i a))
    | .c (.i a) => k (.c (.i a))
    | _ => False
  | 1 => match x with
    | .c (.u a) => k (.c (.u a))
    | .c (.i a) => k (.c (.u (a % 256).toNat))
    | _ => False
  | 2 => match srcRows s 1 x with
    | some rows => ∃ l : List UInt8, rows = l.map uenc ∧ k (.c (.s ⟨l.toArray⟩))
    | none => False
  | _ => False

def stepI (P : Program) (d : Option Nat) (op : IOp) (s : St) (K : St → Prop) : Prop :=
  match op with
  | .mv x => K (s.put d (s.ev x))
  | .pick c a b => pickP (s.ev c) (s.ev a) (s.ev b) fun v => K (s.put d v)
  | .bin op x y => binP op (s.ev x) (s.ev y) fun v => K (s.put d v)
  | .beq n x y => beqP n (s.ev x) (s.ev y) fun v => K (s.put d v)
  | .isn x => isnP (s.ev x) fun v => K (s.put d v)
  | .not x => notP (s.ev x) fun v => K (s.put d v)
  | .neg x => negP (s.ev x) fun v => K (s.put d v)
  | .idx k x i => idxP k s (s.ev x) (s.ev i) fun v => K (s.put d v)
  | .ida k n x i => idaP k n (s.ev x) (s.ev i) fun v => K (s.put d v)
  | .fld off x => fldP off s (s.ev x) fun v => K (s.put d v)
  | .ld1 x => ld1P s (s.ev x) fun v => K (s.put d v)
  | .ldn n x => ldnP n s (s.ev x) fun v => K (s.put d v)
  | .st1 x v => st1P s (s.ev x) (s.ev v) fun s' => K (s'.put d .und)
  | .stn n x v => stnP n s (s.ev x) (s.ev v) fun s' => K (s'.put d .und)
  | .box n x => boxP n s d (s.ev x) K
  | .alloc zs => newP s d (.box zs) (fun d => .box d 0) K
  | .alloca k n z => newP s d (.row k (List.replicate n z)) (fun d => .row d k 0 0) K
  | .mks k b z l c => mksP k b z s d (s.ev l) (s.ev c) K
  | .bsl k xs => bslP k (xs.map s.ev) s d K
  | .bld zs ps => bldPs s ps zs fun l => K (s.put d (.agg l))
  | .slc k x lo hi mx => slcP k (s.ev x) (lo.map s.ev) (hi.map s.ev) (mx.map s.ev) fun v => K (s.put d v)
  | .sla k n x h => slaP k n s (s.ev x) (s.ev h) fun v => K (s.put d v)
  | .len x => lenP s (s.ev x) fun v => K (s.put d v)
  | .slen x => slenP (s.ev x) fun v => K (s.put d v)
  | .app k b x y => appP k b s d (s.ev x) (s.ev y) K
  | .mn xs => mmP (fun x y => if y < x then y else x) (xs.map s.ev) fun v => K (s.put d v)
  | .mx xs => mmP (fun x y => if x < y then y else x) (xs.map s.ev) fun v => K (s.put d v)
  | .ext i x => extP i (s.ev x) fun v => K (s.put d v)
  | .call f xs => callP P f (xs.map s.ev) d s K
  | .ixs x i => ixsP (s.ev x) (s.ev i) fun v => K (s.put d v)
  | .callv f xs => callvP P (s.ev f) (xs.map s.ev) d s K
  | .cp k x y => cpP k s d (s.ev x) (s.ev y) K
  | .cap x => capP (s.ev x) fun v => K (s.put d v)
  | .nck x => nckP (s.ev x) fun v => K (s.put d v)
  | .seq n x y => seqP n (s.ev x) (s.ev y) fun v => K (s.put d v)
  | .scat x y => scatP (s.ev x) (s.ev y) fun v => K (s.put d v)
  | .sls x lo hi => slsP (s.ev x) (lo.map s.ev) (hi.map s.ev) fun v => K (s.put d v)
  | .bit op x y => bitP op (s.ev x) (s.ev y) fun v => K (s.put d v)
  | .binu op x y => binuP op (s.ev x) (s.ev y) fun v => K (s.put d v)
  | .binw op x y => binwP op (s.ev x) (s.ev y) fun v => K (s.put d v)
  | .cvt n x => cvtP n s (s.ev x) fun v => K (s.put d v)
  | .mkf f xs => (xs.map s.ev).all AV.cellOk = true ∧ K (s.put d (.fn f (xs.map s.ev)))
  | .bad => False

def guardP (x : AV) (want : Bool) (A B : Prop) : Prop :=
  match x with
  | .c (.b v) => (v = want → A) ∧ (v = (!want) → B)
  | .und => B
  | _ => False

def wpI (P : Program) : List Ins → St → (St → Prop) → Prop
  | [], s, K => K s
  | i :: l, s, K =>
    match i.g with
    | none => stepI P i.d i.op s fun s' => wpI P l s' K
    | some (t, want) => guardP (s.env t) want (stepI P i.d i.op s fun s' => wpI P l s' K) (wpI P l (s.put i.d .und) K)

def condP (x : AV) (A B : Prop) : Prop :=
  match x with
  | .c (.b v) => (v = true → A) ∧ (v = false → B)
  | _ => False

def Ex.then (Q Q' : Ex → St → Prop) : Ex → St → Prop
  | .normal, s => Q .normal s
  | e, s => Q' e s
def Ex.inBlock (id : Nat) (Q : Ex → St → Prop) : Ex → St → Prop
  | .exit id', s => if id' = id then Q .normal s else Q (.exit id') s
  | e, s => Q e s

end Go.Proofs.Ytenfgllkjgfjpaa
