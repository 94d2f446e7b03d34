/- The abstract machine, part 3: the translation of the model's code into the small language. -/
import Derived.Test.YtenfgllkjgfjpaaMCore2
set_option linter.all false
namespace Go.Proofs.Ytenfgllkjgfjpaa
open Go.RowKit

def constAV : Value → Option AV
  | .int .i64 n => if -9223372036854775808 ≤ n ∧ n ≤ 9223372036854775807 then some (.c (.i n)) else none
  | .int .u8 n => if 0 ≤ n ∧ n < 256 then some (.c (.u n.toNat)) else none
  | .bool b => some (.c (.b b))
  | .string s => if s.size ≤ maxLen then some (.c (.s s)) else none
  | .slice none 0 0 => some (.nil 0)
  | .pointer none => some .any
  | _ => none
/-- With the size of the elements, where it is a slice. -/
def constAVk (k : Nat) (v : Value) : Option AV :=
  match v with
  | .slice none 0 0 => some (.nil k)
  | v => constAV v

def cx : Operand → Option X
  | .tmp t => if t < slotM then some (.t t) else none
  | .const v => (constAV v).map .k
  | _ => none

def cxs : List Operand → Option (List X)
  | [] => some []
  | o :: l => match cx o, cxs l with
    | some x, some xs => some (x :: xs)
    | _, _ => none

def constAVs : List Value → List Nat → Option (List AV)
  | [], [] => some []
  | o :: l, k :: ks => match constAVk k o, constAVs l ks with
    | some x, some xs => some (x :: xs)
    | _, _ => none
  | _, _ => none

/-- The zero of a cell as data; 'k' is the size of a slice's elements. -/
def zeroC (v : Value) (k : Nat) : Option C :=
  match v with
  | .int .i64 n => if n = 0 then some (.i 0) else none
  | .int .u8 n => if n = 0 then some (.u 0) else none
  | .bool b => if b then none else some (.b false)
  | .string s => if s.size = 0 then some (.s s) else none
  | .slice none 0 0 => some (.sl k [])
  | _ => none

def zeroCs : List Value → List Nat → Option (List C)
  | [], [] => some []
  | v :: l, k :: ks => match zeroC v k, zeroCs l ks with
    | some x, some xs => some (x :: xs)
    | _, _ => none
  | _, _ => none

def zeroOk : Value → C → Bool
  | .int .i64 n, .i m => n = 0 && m = 0
  | .int .u8 n, .u m => n = 0 && m = 0
  | .bool b, .b c => b == c
  | .string s, .s t => s.size = 0 && t.size = 0
  | .slice none 0 0, .sl _ rows => rows.isEmpty
  | _, _ => false
def zeroOks : List Value → List C → Bool
  | [], [] => true
  | v :: l, c :: cs => zeroOk v c && zeroOks l cs
  | _, _ => false

/-- For each cell of a type, the size of the elements that it leads to (0: it is no slice). -/
def leads (P : Program) : Nat → TypeId → List Nat
  | 0, _ => []
  | f + 1, t => match P.underlying t with
    | some (.slice e) => [((P.info? e).map (·.size)).getD 0]
    | some (.struct fs) => fs.toList.flatMap fun x => leads P f x.type
    | some (.array n e) => (List.replicate n (leads P f e)).flatten
    | _ => [0]

def szOf (P : Program) (t : TypeId) : Option Nat := (P.info? t).map (·.size)
/-- An operand of a type: a slice that is nil is one of the type's. -/
def cxt (P : Program) (t : TypeId) (o : Operand) : Option X :=
  match o with
  | .const (.slice none 0 0) => match P.underlying t with
    | some (.slice e) => (szOf P e).map fun k => .k (.nil k)
    | _ => some (.k (.nil 0))
  | o => cx o
def cxts (P : Program) : List TypeId → List Operand → Option (List X)
  | [], [] => some []
  | t :: ts, o :: l => match cxt P t o, cxts P ts l with
    | some x, some xs => some (x :: xs)
    | _, _ => none
  | _, _ => none
def bigC : Operand → Bool
  | .const (.int _ n) => decide (1099511627776 ≤ n)
  | _ => false
/-- A constant of whatever kind by which one shifts. -/
def shC : BinOp → Operand → Option Int
  | .shl, .const (.int _ n) | .shr, .const (.int _ n) => if 0 ≤ n ∧ n < 64 then some n else none
  | _, _ => none
def isByte (P : Program) (t : TypeId) : Bool := match P.underlying t with | some (.int .u8) => true | _ => false
def isInt (P : Program) (t : TypeId) : Bool := match P.underlying t with | some (.int .i64) => true | _ => false
def okF (P : Program) (f : Nat) : Bool := match P.funcs[f]? with
  | some fn => fn.body.isSome && fn.name != "runtime.NumGoroutine"
  | none => false
def aggB (P : Program) (t : TypeId) : Option Bool :=
  match P.underlying t with
  | some (.struct _) | some (.array _ _) => some true
  | some _ => some false
  | none => none

def partsX : Nat → List (Nat × Operand) → Option (List X)
  | _, [] => some []
  | n, (i, o) :: l => if i = n then match cx o, partsX (n + 1) l with
      | some x, some xs => some (x :: xs)
      | _, _ => none
    else none

def bldP (places : List (Nat × Nat)) : List (Nat × Operand) → Option (List (Nat × Nat × X))
  | [] => some []
  | (i, o) :: l => match places[i]?, cx o, bldP places l with
    | some (off, n), some x, some xs => some ((off, n, x) :: xs)
    | _, _, _ => none

def compCall (P : Program) (c : Call) : Option IOp :=
  match c.callee with
  | .builtin .len => match c.args.toList, c.argTypes.toList with
    | [x], [t] => match P.underlying t, cx x with
      | some (.slice _), some x => some (.len x)
      | some .string, some x => some (.slen x)
      | _, _ => none
    | _, _ => none
  | .builtin .append => match c.args.toList, c.argTypes.toList with
    | [x, y], [t, u] => match P.underlying t, cxt P t x, cxt P t y with
      | some (.slice e), some x, some y => match P.info? e with
        | some i => match i.zero with
          | some z => if t = u ∧ 0 < i.size ∧ z.cells.size = i.size ∧ 0 < i.bytes then some (.app i.size i.bytes x y) else none
          | none => none
        | none => none
      | _, _, _ => none
    | _, _ => none
  | .builtin .min => (cxs c.args.toList).map .mn
  | .builtin .max => (cxs c.args.toList).map .mx
  | .builtin .cap => match c.args.toList, c.argTypes.toList with
    | [x], [t] => match P.underlying t, cx x with
      | some (.slice _), some x => some (.cap x)
      | _, _ => none
    | _, _ => none
  | .builtin .copy => match c.args.toList, c.argTypes.toList with
    | [x, y], [t, u] => match P.underlying t, cx x, cx y with
      | some (.slice e), some x, some y => if t = u then match szOf P e with
        | some (k + 1) => some (.cp (k + 1) x y)
        | _ => none
        else none
      | _, _, _ => none
    | _, _ => none
  | .value (.func f) => match P.funcs[f]?, (match cxts P c.argTypes.toList c.args.toList with | some xs => some xs | none => cxs c.args.toList) with
    | some fn, some xs => if fn.body.isSome && fn.name != "runtime.NumGoroutine" then some (.call f xs) else none
    | _, _ => none
  | .value f => match cx f, cxs c.args.toList with
    | some f, some xs => some (.callv f xs)
    | _, _ => none
  | _ => none

def compOp (P : Program) (o : Oper) : Option IOp :=
  match o.op with
  | .move x | .assign x => (cxt P o.type x).map .mv
  | .pick c a b => match cx c, cx a, cx b with
    | some c, some a, some b => some (.pick c a b)
    | _, _, _ => none
  | .binOp op t x y _ => match P.underlying t with
    | some (.int k) => match cx x, cx y with
      | some a, some b => match op with
        | .and | .xor | .shl | .shr => some (.bit op a b)
        | _ => if k == .u8 then some (.binu op a b) else if bigC x || bigC y then some (.binw op a b) else some (.bin op a b)
      | some a, none => (shC op y).map fun n => .bit op a (.k (.c (.i n)))
      | _, _ => none
    | some .string => match op, cx x, cx y with
      | .eql, some x, some y => some (.seq false x y)
      | .neq, some x, some y => some (.seq true x y)
      | .add, some x, some y => some (.scat x y)
      | _, _, _ => none
    | some .bool => match op, cx x, cx y with
      | .eql, some x, some y => some (.beq false x y)
      | .neq, some x, some y => some (.beq true x y)
      | _, _, _ => none
    | some (.slice _) => match op, cx x, y with
      | .eql, some x, .const (.slice none 0 0) => some (.isn x)
      | _, _, _ => none
    | _ => none
  | .unOp .not _ x => (cx x).map .not
  | .unOp .neg _ x => (cx x).map .neg
  | .indexAddr t x i => match P.underlying t, cx x, cx i with
    | some (.slice e), some x, some i => (szOf P e).map fun k => .idx k x i
    | some (.array n e), some x, some i => (szOf P e).map fun k => .ida k n x i
    | _, _, _ => none
  | .fieldAddr t x f => match P.underlying t, cx x with
    | some (.struct fs), some x => match fs[f]? with
      | some fl => match szOf P fl.type with
        | some (_ + 1) => some (.fld fl.offset x)
        | _ => none
      | none => none
    | _, _ => none
  | .load t x => match aggB P t, cx x, szOf P t with
    | some true, some x, some n => some (.ldn n x)
    | some false, some x, _ => some (.ld1 x)
    | _, _, _ => none
  | .store t x v => match aggB P t, cx x, cxt P t v, szOf P t with
    | some true, some x, some v, some n => some (.stn n x v)
    | some false, some x, some v, some 1 => some (.st1 x v)
    | _, _, _, _ => none
  | .box t x => match cx x, szOf P t with
    | some x, some n => some (.box n x)
    | _, _ => none
  | .alloc t => match P.info? t, P.underlying t with
    | some i, some (.array n e) => match i.zero, P.info? e with
      | some z, some j => match j.zero with
        | some y => match zeroCs y.cells.toList (leads P 8 e) with
          | some cs => if zeroOks z.cells.toList (List.replicate n cs).flatten && cs.length == j.size then some (.alloca j.size n cs) else none
          | none => none
        | none => none
      | _, _ => none
    | some i, some _ => match i.zero with
      | some z => (constAVs z.cells.toList (leads P 8 t)).map .alloc
      | none => none
    | _, _ => none
  | .makeSlice t l c => match P.underlying t, cx l, cx c with
    | some (.slice e), some l, some c => match P.info? e with
      | some i => match i.zero with
        | some z => if z.cells.size = i.size ∧ 0 < i.size then (zeroCs z.cells.toList (leads P 8 e)).map fun cs => .mks i.size i.bytes cs l c else none
        | none => none
      | none => none
    | _, _, _ => none
  | .buildSlice t n parts => match P.underlying t, partsX 0 parts.toList with
    | some (.slice e), some xs => match P.info? e with
      | some i => match i.zero with
        | some z => if xs.length = n ∧ n * i.size ≤ 1000 ∧ 0 < i.size ∧ z.cells.size = i.size then some (.bsl i.size xs) else none
        | none => none
      | none => none
    | _, _ => none
  | .build t parts => match P.info? t, P.underlying t with
    | some it, some (.struct fields) => match it.zero, fields.toList.mapM (fun f => (P.info? f.type).map fun i => (f.offset, i.size)) with
      | some z, some places => match bldP places parts.toList, constAVs z.cells.toList (leads P 8 t) with
        | some ps, some zs => some (.bld zs ps)
        | _, _ => none
      | _, _ => none
    | _, _ => none
  | .slice t x lo hi mx => match P.underlying t, cx x with
    | some (.slice e), some x => match szOf P e, lo.map cx, hi.map cx, mx.map cx with
      | some k, none, some (some h), none => some (.slc k x none (some h) none)
      | some k, some (some l), none, none => some (.slc k x (some l) none none)
      | some k, some (some l), some (some h), none => some (.slc k x (some l) (some h) none)
      | some k, none, some (some h), some (some m) => some (.slc k x none (some h) (some m))
      | _, _, _, _ => none
    | some (.array n e), some x => match szOf P e, lo.map cx, hi.map cx, mx.map cx with
      | some k, none, some (some h), none => if n ≤ maxLen then some (.sla k n x h) else none
      | _, _, _, _ => none
    | some .string, some x => match lo.map cx, hi.map cx, mx with
      | none, some (some h), none => some (.sls x none (some h))
      | some (some l), none, none => some (.sls x (some l) none)
      | some (some l), some (some h), none => some (.sls x (some l) (some h))
      | _, _, _ => none
    | _, _ => none
  | .nilCheck x => (cx x).map .nck
  | .convert t u x => match cx x with
    | some y => if (isByte P t || isInt P t) && isInt P u then some (.cvt 0 y) else if (isByte P t || isInt P t) && isByte P u then some (.cvt 1 y)
      else match P.underlying t, P.underlying u with
        | some (.slice e), some .string => if isByte P e then some (.cvt 2 y) else none
        | _, _ => none
    | none => none
  | .makeFunc (.func f) first captured => match first.toList, cxs captured.toList with
    | [], some xs => some (.mkf f xs)
    | _, _ => none
  | .makeInterface _ _ => some .bad
  | .panic _ => some .bad
  | .call c => compCall P c
  | .extract x i => (cx x).map (.ext i)
  | .index t x i => match P.underlying t, cx x, cx i with
    | some .string, some x, some i => some (.ixs x i)
    | _, _, _ => none
  | _ => none

def compIns (P : Program) (N : Nat) (ops : Array Oper) (o : Oper) : Option Ins :=
  match compOp P o with
  | some op => match o.dst with
    | none => match o.guard with
      | none => some ⟨none, none, op⟩
      | some (j, want) => match (ops[j]?).bind (·.dst) with | some t => if t < slotM then some ⟨some (t, want), none, op⟩ else none | none => none
    | some d => if d < N then match o.guard with
      | none => some ⟨none, some d, op⟩
      | some (j, want) => match (ops[j]?).bind (·.dst) with | some t => if t < slotM then some ⟨some (t, want), some d, op⟩ else none | none => none
      else none
  | none => none

def compOps (P : Program) (N : Nat) (ops : Array Oper) : List Oper → Option (List Ins)
  | [] => some []
  | o :: l => match compIns P N ops o, compOps P N ops l with
    | some i, some is => some (i :: is)
    | _, _ => none

def X.tm : X → List Nat
  | .t n => [n]
  | .k _ => []
def X.tmo : Option X → List Nat
  | some x => x.tm
  | none => []

/-- The temporaries that an instruction looks at; none: it is not one of the quiet ones. -/
def IOp.reads : IOp → Option (List Nat)
  | .mv x | .not x | .neg x | .fld _ x | .ld1 x | .ldn _ x | .ext _ x => some x.tm
  | .len (.t n) | .slen (.t n) => some [n]
  | .nck x | .cvt 0 x | .cvt 1 x => some x.tm
  | .seq _ x y | .scat x y | .bit _ x y | .binu _ x y | .binw _ x y => some (x.tm ++ y.tm)
  | .sls x lo hi => some (x.tm ++ X.tmo lo ++ X.tmo hi)
  | .mkf _ xs => some (xs.flatMap X.tm)
  | .pick c a b => some (c.tm ++ a.tm ++ b.tm)
  | .bin _ x y | .beq _ x y => some (x.tm ++ y.tm)
  | .idx _ x i | .ida _ _ x i | .ixs x i => some (x.tm ++ i.tm)
  | .slc _ x lo hi m => some (x.tm ++ X.tmo lo ++ X.tmo hi ++ X.tmo m)
  | .sla _ _ x h => some (x.tm ++ h.tm)
  | .mn xs | .mx xs | .call _ xs => some (xs.flatMap X.tm)
  | .callv f xs => some (f.tm ++ xs.flatMap X.tm)
  | .bld _ ps => some ((ps.map fun p => p.2.2).flatMap X.tm)
  | _ => none

def Ins.reads (i : Ins) : Option (List Nat) :=
  i.op.reads.map fun l => match i.g with
    | some (t, _) => t :: l
    | none => l

def edgeTo (o : Oper) (i : Nat) : Bool := o.after.any fun e => e.on == i && Region.binds .any e
def Ins.rd (i : Ins) : List Nat := (i.reads).getD []
def indep (x y : Ins) : Bool :=
  (match x.d with | some d => !y.rd.contains d | none => true) && (match y.d with | some d => !x.rd.contains d | none => true)
def pairOk (o : Oper) (i : Nat) (x y : Ins) : Bool := (x.d.isNone || x.d != y.d) && (edgeTo o i || indep x y)
def quietOk (ops : Array Oper) (is : List Ins) : Bool :=
  (is.all fun i => i.reads.isSome) && (List.range ops.size).all fun j => match ops[j]?, is[j]? with
    | some o, some y => (o.after.all fun e => !Region.binds .any e || decide (e.on < j)) && (List.range j).all fun i => match is[i]? with
      | some x => pairOk o i x y
      | none => false
    | _, _ => false

/-- In the mode md the operations can be ranked: each comes behind those that it waits for. -/
def rankOk (md : Region.Mode) (ops : Array Oper) (rk : Nat → Nat) : Bool :=
  (List.range ops.size).all fun j => match ops[j]? with
    | some o => o.after.all fun e => !Region.binds md e || (decide (rk e.on < rk j) && decide (e.on < ops.size))
    | none => false
def gcRank (ops : Array Oper) : Nat → Nat := let l := Region.linearise .gc ops 0; fun j => l.idxOf j
def departOk (ops : Array Oper) : Bool := rankOk .text ops (fun j => j) && rankOk .gc ops (gcRank ops)

def compQ (P : Program) (N : Nat) (ops : Array Oper) : Option (List Ins) :=
  match compOps P N ops ops.toList with
  | some is => if quietOk ops is && (P.follows .mixedOrders || !Region.departs ops || departOk ops) then some is else none
  | none => none

/-! Regions that leave their order open and change objects. -/
/-- The operands of an instruction. -/
def IOp.xs : IOp → List X
  | .mv x | .not x | .neg x | .fld _ x | .ld1 x | .ldn _ x | .ext _ x | .len x | .slen x | .nck x | .cvt _ x | .isn x | .box _ x | .cap x => [x]
  | .seq _ x y | .scat x y | .bit _ x y | .binu _ x y | .binw _ x y | .bin _ x y | .beq _ x y | .ixs x y | .idx _ x y | .ida _ _ x y | .sla _ _ x y | .st1 x y | .stn _ x y | .app _ _ x y | .cp _ x y | .mks _ _ _ x y => [x, y]
  | .pick a b c => [a, b, c]
  | .sls x lo hi => x :: (lo.toList ++ hi.toList)
  | .slc _ x lo hi m => x :: (lo.toList ++ hi.toList ++ m.toList)
  | .mn xs | .mx xs | .call _ xs | .mkf _ xs | .bsl _ xs => xs
  | .callv f xs => f :: xs
  | .bld _ ps => ps.map fun p => p.2.2
  | .alloc _ | .alloca _ _ _ | .bad => []
/-- The object ids that a value names. -/
def AV.ids0 : AV → List Nat
  | .box i _ | .row i _ _ _ | .own i _ _ | .sub i _ _ _ _ _ | .srow i _ _ _ _ _ _ | .cut i _ _ _ => [i]
  | _ => []
def AV.ids1 : AV → List Nat
  | .agg l | .fn _ l => l.flatMap AV.ids0
  | x => x.ids0
def AV.ids2 : AV → List Nat
  | .agg l | .fn _ l => l.flatMap AV.ids1
  | x => x.ids1
def AV.ids : AV → List Nat
  | .tup l => l.flatMap AV.ids2
  | x => x.ids2
def X.kok : X → Bool
  | .k a => a.ids.isEmpty
  | .t _ => true
def Ins.rdx (i : Ins) : List Nat := (match i.g with | some (t, _) => [t] | none => []) ++ i.op.xs.flatMap X.tm
def IOp.isMk : IOp → Bool
  | .alloc zs => zs.all fun z => z.ids.isEmpty
  | .alloca _ _ _ | .mks _ _ _ _ _ | .bsl _ _ => true
  | _ => false
def IOp.isEff : IOp → Bool
  | .st1 _ _ | .stn _ _ _ | .app _ _ _ _ | .cp _ _ _ => true
  | _ => false
def IOp.isCall : IOp → Bool
  | .call _ _ | .callv _ _ => true
  | _ => false
/-- 0: it only reads, 1: it makes an object, 2: it changes one. -/
def Ins.kind (i : Ins) : Option Nat :=
  if i.op.reads.isSome then some 0 else if i.g.isNone && i.op.isMk && i.d.isSome then some 1 else if i.g.isNone && i.op.isEff then some 2 else none
def apartI (x y : Ins) : Bool :=
  (match x.d with | some d => !y.rdx.contains d && y.d != some d | none => true) && (match y.d with | some d => !x.rdx.contains d | none => true)
/-- For each operation the set of those that go ahead of it, as bits. -/
def ancGo : List Nat → List Oper → List Nat
  | acc, [] => acc
  | acc, o :: l => ancGo (acc ++ [o.after.toList.foldl (fun m e => if Region.binds .any e then m ||| (1 <<< e.on) ||| (acc.getD e.on 0) else m) 0]) l
/-- May two operations whose order is open change places: true: yes; none: no; false: yes, where they stand apart. -/
def swapK (x y : RIns) : Option Bool :=
  if apartI x.i y.i then match x.k, y.k with
    | 0, 0 | 0, 1 | 1, 0 | 1, 1 | 1, 2 => some true
    | 0, 2 => if x.i.op.isCall then none else some false
    | 2, 0 => if y.i.op.isCall then none else some false
    | 2, 1 => some false
    | _, _ => none
  else none
def edgesBack (ops : List Oper) : Bool := (List.range ops.length).all fun j => match ops[j]? with
  | some o => o.after.all fun e => !Region.binds .any e || decide (e.on < j)
  | none => false
def pairsOk (anc : List Nat) (rs : List RIns) : Bool := (List.range rs.length).all fun j => match rs[j]? with
  | some y => (List.range j).all fun i => match rs[i]? with
    | some x => ((anc.getD j 0).testBit i) || (match swapK x y with | some true => true | some false => y.chk.contains i && x.note | none => false)
    | none => false
  | none => false
def notesOk (rs : List RIns) : Bool := (List.range rs.length).all fun j => match rs[j]? with
  | some y => y.chk.all fun i => decide (i < j) && (match rs[i]? with | some x => x.note | none => false)
  | none => false
def RIns.ok (r : RIns) : Bool := r.i.kind == some r.k && r.i.op.xs.all X.kok
def mkRs (f : Nat → Ins → RIns) : Nat → List Ins → List RIns
  | _, [] => []
  | j, i :: l => ⟨(f j i).k, (f j i).note, (f j i).chk, i⟩ :: mkRs f (j + 1) l
def mkR (anc : List Nat) (is : List Ins) : List RIns :=
  let ks := is.map fun i => (⟨(i.kind).getD 3, false, [], i⟩ : RIns)
  let chks := (List.range ks.length).map fun j => match ks[j]? with
    | some y => (List.range j).filter fun i => match ks[i]? with
      | some x => !((anc.getD j 0).testBit i) && (swapK x y == some false)
      | none => false
    | none => []
  mkRs (fun j i => ⟨(i.kind).getD 3, chks.any fun l => l.contains j, chks.getD j [], i⟩) 0 is
def compE (P : Program) (N : Nat) (ops : Array Oper) : Option (List RIns) :=
  match compOps P N ops ops.toList with
  | some is =>
    let anc := ancGo [] ops.toList
    let rs := mkR anc is
    if P.follows .mixedOrders && rs.all RIns.ok && edgesBack ops.toList && pairsOk anc rs && notesOk rs then some rs else none
  | none => none

def comp (P : Program) (N : Nat) : Code → Option SC
  | .skip => some .skip
  | .region _ ops draw => if draw then match compQ P N ops with
      | some l => some (.regq l)
      | none => (compE P N ops).map .rege
    else (compOps P N ops ops.toList).map .reg
  | .seq a b => match comp P N a, comp P N b with
    | some a, some b => some (.seq a b)
    | _, _ => none
  | .cond c a b => match cx c, comp P N a, comp P N b with
    | some c, some a, some b => some (.cond c a b)
    | _, _, _ => none
  | .block id c => (comp P N c).map (.block id)
  | .loop c => (comp P N c).map .loop
  | .exit id => some (.exit id)
  | .ret => some .ret
  | _ => none

end Go.Proofs.Ytenfgllkjgfjpaa
