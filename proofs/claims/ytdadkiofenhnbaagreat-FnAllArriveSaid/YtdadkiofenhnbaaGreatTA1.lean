/- The machine of the proof: an abstract run of the code, proved sound. -/
import Derived.Below
import Derived.Calls
import Derived.Laws.AppendOwn
import Derived.Laws.OwnMore
import Derived.IntWalk
import Derived.Laws.StructEq
import Derived.MapKept
import Derived.Lib.Bytealg
import Derived.Laws.Externs
import Derived.WalkKit
set_option linter.all false
namespace Go.Proofs.YtdadkiofenhnbaaGreat
open Go.RowKit
def zaa:=@List.getElem?_eq_some_iff
def zab:=@List.getElem?_eq_getElem
def zac:=@List.mem_of_getElem?
def zad:=@Bool.and_eq_true
def zae:=@List.take_of_length_le
def zaf:=@List.all_eq_true
def zah:=@List.length_append
def zai:=@List.getD_eq_getElem?_getD
def zaj:=@List.mem_append
def zak:=@List.mem_singleton
def zal:=@List.length_map
def zam:=@Option.map_eq_some_iff
def zan:=@Array.getD_eq_getD_getElem?
def zao:=@List.take_succ
def zaq:=@Nat.mul_le_mul_right
def zar:=@List.length_cons
def zas:=@Nat.lt_or_ge
def zat:=@List.getElem?_of_mem
def zau:=@List.getElem?_map
def zav:=@List.take_append_drop
def zaw:=@List.mem_of_mem_take
def zax:=@List.mem_cons
def zay:=@List.length_eq_zero_iff
def zaz:=@List.getElem?_append_right
def zaA:=@List.length_take
def zaB:=@Nat.eq_zero_or_pos
def zaC:=@List.map_cons
def zaD:=@List.map_append
def zaE:=@List.getElem?_set
def zaF:=@List.drop_eq_getElem_cons
def zaG:=@Int.tdiv_eq_ediv_of_nonneg
def zaH:=@List.not_mem_nil
def zaI:=@List.mem_flatMap
def zaJ:=@Array.getElem?_eq_some_iff
def zaK:=@List.mem_or_eq_of_mem_set
def zaL:=@Array.getElem?_eq_getElem
def zaM:=@List.sum_cons
def zaN:=@List.mem_range
def zaO:=@List.mem_of_mem_drop
def zaP:=@List.mem_map
def zaQ:=@List.mem_append_right
def zaR:=@List.length_drop
def zaS:=@List.pairwise_append
def zaT:=@Option.map_some
def zaU:=@List.flatMap_cons
def zaV:=@List.flatMap_append
def zaW:=@Bool.true_and
def zaX:=@List.getElem?_append_left
def zaY:=@List.nodup_append
def zaZ:=@List.map_set
def zba:=@Nat.le_trans
def zbb:=@Bool.not_eq_true'
def zbc:=@Option.getD_some
def zbd:=@List.mem_iff_getElem?
def zbe:=@Int.tmod_eq_emod_of_nonneg
def zbf:=@List.length_nil
def zbg:=@List.map_congr_left
def zbh:=@List.append_assoc
def zbi:=@List.mem_append_left
def zbj:=@Int.le_refl
def zbk:=@Bool.and_false
def zbl:=@List.map_take
def zbm:=@List.countP_append
def zbn:=@List.length_set
def zbo:=@List.getElem_mem
def zbp:=@Nat.zero_add
def zbq:=@List.pairwise_cons
def zbr:=@Bool.or_eq_true
def zbs:=@List.length_pos_iff
def zbt:=@Array.getElem?_setIfInBounds
def zbu:=@Nat.zero_le
def zbv:=@List.getElem?_take
def zbw:=@List.takeWhile_cons
def zbx:=@List.mem_map_of_mem
def zby:=@List.take_length
def zbz:=@List.foldl_cons
def zbA:=@List.countP_true
def zbB:=@Nat.add_mul
def zbC:=@List.set_cons_zero
def zbD:=@List.getElem?_drop
def zbE:=@List.mem_filter
def zbF:=@List.append_nil
def zbG:=@Bool.false_and
def zbH:=@List.foldl_append
def zbI:=@List.length_eq_one_iff
def zbJ:=@List.drop_of_length_le
def zbK:=@List.getElem?_zip_eq_some
def zbL:=@Nat.add_assoc
def zbM:=@List.eq_nil_of_length_eq_zero
def zbN:=@List.length_singleton
def zbO:=@List.getElem?_replicate
def zbP:=@List.getElem?_cons_zero
def zbQ:=@Bool.false_eq_true
def zbR:=@List.mem_cons_of_mem
def zbS:=@Array.getElem?_append_left
def zbT:=@List.replicate_succ
def zbU:=@List.ext_getElem?
def zbV:=@List.sizeOf_lt_of_mem
def zbW:=@List.length_replicate
def zbX:=@List.length_filter_le
def zbY:=@Nat.lt_or_gt_of_ne
def zbZ:=@Bool.false_ne_true
def zca:=@Array.all_eq_true'
def zcb:=@List.flatMap_eq_nil_iff
def zcc:=@Nat.sub_self
def zcd:=@List.getElem_set_ne
def zce:=@List.filter_eq_nil_iff
def zcf:=@List.exists_cons_of_ne_nil
def zcg:=@Option.bind_some
def zch:=@List.set_cons_succ
def zci:=@List.set_append_right
def zcj:=@List.map_nil
def zck:=@List.findIdx?_eq_some_iff_getElem
def zcl:=@List.eq_nil_or_concat
def zcm:=@List.concat_eq_append
def zcn:=@Array.getElem?_toList
def zco:=@Nat.one_mul
def zcp:=@List.pairwise_iff_getElem
def zcq:=@List.mem_iff_getElem
def zcr:=@List.getElem?_append
def zcs:=@List.takeWhile_append_dropWhile
def zct:=@Nat.add_sub_cancel_left
def zcu:=@List.dropWhile_cons
def zcv:=@Bool.and_true
def zcw:=@List.cons_append
def zcx:=@Int.mul_nonneg
def zcy:=@List.drop_eq_nil_of_le
def zcz:=@List.filter_append
def zcA:=@Nat.add_zero
def zcB:=@List.sum_append
def zcC:=@List.nodup_cons
def zcD:=@List.nil_append
def zcE:=@Int.mul_add
def zcF:=@Int.lt_or_le
def zcG:=@Bool.and_eq_false_iff
def zcH:=@Nat.lt_trichotomy
def zcI:=@List.reverse_reverse
def zcJ:=@List.getElem?_set_ne
def zcK:=@List.findIdx?_eq_none_iff
def zcL:=@List.nodup_range
def zcM:=@Int.ediv_le_self
def zcN:=@List.filter_eq_self
def zcO:=@List.countP_pos_iff
def zcP:=@Option.isSome_iff_exists
def zcQ:=@Nat.le_mul_of_pos_right
def zcR:=@List.set_append
def zcS:=@List.mem_replicate
def zcT:=@List.getElem?_tail
def zcU:=@Int.eq_ofNat_of_zero_le
def zcV:=@Int.ediv_nonneg
def zcW:=@List.take_succ_eq_append_getElem
def zcX:=@List.getElem?_set_self
def zcY:=@List.length_range
def zcZ:=@List.flatten_cons
def zda:=@List.filter_congr
def zdb:=@Array.size_append
def zdc:=@Array.range_zero'
def zdd:=@List.drop_drop
def zde:=@Int.mul_le_mul
def zdf:=@List.map_map
def zdg:=@List.getElem?_eq_none
def zdh:=@List.take_append_of_le_length
def zdi:=@List.flatMap_nil
def zdj:=@List.filter_cons
def zdk:=@Bool.not_eq_true
def zdl:=@List.count_le_length
def zdm:=@List.contains_eq_mem
def zdn:=@List.map_drop
def zdo:=@List.all_cons
def zdp:=@List.reverse_append
def zdq:=@List.range_succ
def zdr:=@Option.toList_some
def zds:=@Nat.lt_of_lt_of_le
def zdu:=@List.mem_cons_self
def zdv:=@List.count_eq_zero
def zdw:=@Int.emod_lt_of_pos
def zdx:=@Nat.mul_le_mul
def zdy:=@List.take_zero
def zdz:=@List.take_sublist
def zdA:=@List.size_toArray
def zdB:=@List.drop_sublist
def zdC:=@List.all_eq_false
def zdD:=@Int.not_lt
def zdE:=@Array.getElem?_replicate
def zdF:=@List.take_add
def zdG:=@List.getElem?_cons_succ
def zdH:=@Bool.and_self
def zdI:=@Nat.mod_eq_of_lt
def zdJ:=@List.zipIdx_cons
def zdK:=@List.range'_succ
def zdL:=@List.pairwise_lt_range
def zdM:=@List.perm_append_comm
def zdN:=@List.find?_cons
def zdO:=@List.all_nil
def zdP:=@List.all_append
def zdQ:=@Int.natCast_add
def zdR:=@Int.emod_nonneg
def zdS:=@Nat.div_lt_of_lt_mul
def zdT:=@List.range_eq_range'
def zdU:=@Nat.mul_le_mul_left
def zdV:=@List.replicate_zero
def zdW:=@List.getElem?_range
def zdX:=@Int.toNat_of_nonneg
def zdY:=@Nat.lt_of_le_of_lt
def zdZ:=@List.map_replicate
def zea:=@List.flatMap_assoc
def zeb:=@List.count_pos_iff
def zec:=@List.all_takeWhile
def zed:=@Bool.or_false
def zee:=@Array.any_eq_true'
def zef:=@List.getElem_take
def zeg:=@List.count_append
def zeh:=@Int.toNat_natCast
def zei:=@Bool.not_eq_false
def zej:=@Nat.succ_mul
def zek:=@Nat.sub_zero
def zel:=@Int.le_trans
def zem:=@Int.le_of_lt
def zen:=@List.mem_reverse
def zeo:=@List.flatMap_map
def zep:=@List.countP_cons
def zeq:=@List.append_inj'
def zer:=@Int.mul_one
def zes:=@Nat.mod_lt
def zet:=@Int.not_le
inductive C where
 |i (n:Int)
 |b (v:Bool)
 |u (n:Nat)
 |q (n:Nat)
 |s (bs:ByteArray)
 |sl (k:Nat) (rows:List (List C))
 |ow (k:Nat) (rows:List (List C))
 |ot (k:Nat) (rows:List (List C))
 |bx (cells:List C)
 |jk
 deriving Inhabited
def inI(n:Int):Prop:=-9223372036854775808<=n/\n<=9223372036854775807
def yaeu{n:Int}(h1: -9223372036854775808<=n)(h2:n<=9223372036854775807):inI n:=⟨h1,h2⟩
theorem ycG{n:Int}(h:inI n):IntKind.i64.wrap n=n:=IntWalk.i64_in n h
inductive Rd(w:World)(G:Nat->Prop):Value->C->Prop where
 |i {n:Int}:inI n->Rd w G (.int .i64 n) (.i n)
 |b {v:Bool}:Rd w G (.bool v) (.b v)
 |u {n:Nat}:n<256->Rd w G (.int .u8 n) (.u n)
 |q {n:Nat}:n<18446744073709551616->Rd w G (.int .u64 n) (.q n)
 |s {bs:ByteArray}:bs.size<=maxLen->Rd w G (.string bs) (.s bs)
 |sl {a:Option Addr} {len cap k:Nat} {rows:List (List C)} (vals:Nat->Nat->Value):
  rows.length=len->len<=cap->cap<=maxLen->(∀r,r∈rows->r.length=k)->(0<len->a.isSome=true)->
  (∀i r,rows[i]?=some r->∀j c,r[j]?=some c->∃ad,a=some ad/\G ad.block/\w.cell? (ad.add (i*k+j))=some (vals i j))->
  (∀i r,rows[i]?=some r->∀j c,r[j]?=some c->Rd w G (vals i j) c)->
  Rd w G (.slice a len cap) (.sl k rows)
theorem block_add(a:Addr)(n:Nat):(a.add n).block=a.block:=by grind [Addr.add]
theorem add_add(a:Addr)(i j:Nat):(a.add i).add j=a.add (i+j):=by
 grind [Addr.add]
theorem add_lit(g o n:Nat):(⟨g,o,none⟩:Addr).add n=⟨g,o+n,none⟩:=by
 grind [Addr.add]
def Rd.mono{w w':World}{G G':Nat->Prop}{v:Value}{c:C}(h:Rd w G v c)(hG:∀b,G b->G' b)
 (hc:∀(ad:Addr) (u:Value),G ad.block->w.cell? ad=some u->w'.cell? ad=some u):Rd w' G' v c:=by
 induction h with
 |i h=>exact .i h
 |b=>exact .b
 |u h=>exact .u h
 |q h=>exact .q h
 |s h=>exact .s h
 |sl vals h1 h2 h3 h4 h5 h6 _ ih=>
  refine .sl vals h1 h2 h3 h4 h5 (λi r hr j c hj=>?_) ih
  grind [block_add]
theorem Rd.one{w:World}{G:Nat->Prop}{v:Value}{c:C}(h:Rd w G v c):v.oneCell'=true:=by
 cases h<;>rfl
theorem Rd.cells{w:World}{G:Nat->Prop}{v:Value}{c:C}(h:Rd w G v c):v.cells= #[v]:=by
 cases h<;>rfl
def C.WF:C->Prop
 | .i n=>inI n
 | .b _=>True
 | .u n=>n<256
 | .q n=>n<18446744073709551616
 | .s bs=>bs.size<=maxLen
 | .sl k rows=>rows.length<=maxLen/\∀r,r∈rows->r.length=k/\∀c,c∈r->c.WF
 | .ow k rows=>rows.length<=maxLen/\∀r,r∈rows->r.length=k/\∀c,c∈r->c.WF
 | .ot k rows=>rows.length<=maxLen/\∀r,r∈rows->r.length=k/\∀c,c∈r->c.WF
 | .bx cells=>∀c,c∈cells->c.WF
 | .jk=>True
termination_by c=>SizeOf.sizeOf c
decreasing_by
 all_goals first
  | (have h1:=zbV ‹_∈rows›
     have h2:=zbV ‹_∈r›
     simp only[C.sl.sizeOf_spec,C.ow.sizeOf_spec,C.ot.sizeOf_spec]
     omega)
  | (have h1:=zbV ‹_∈cells›
     simp only[C.bx.sizeOf_spec]
     omega)
def Rd.wf{w:World}{G:Nat->Prop}{v:Value}{c:C}(h:Rd w G v c):c.WF:=by
 induction h with
 |i h=>grind [C.WF]
 |b=>simp[C.WF]
 |u h=>grind [C.WF]
 |q h=>grind [C.WF]
 |s h=>grind [C.WF]
 |sl vals h1 h2 h3 h4 h5 h6 _ ih=>
  grind [List.getElem?_of_mem,C.WF]
def noF:Nat->Prop:=λ_=>False
inductive OT(w:World)(G:Nat->Prop):Value->C->(Nat->Prop)->Prop where
 |sh {v:Value} {c:C} {F:Nat->Prop}:Rd w G v c->OT w G v c F
 |jk {v:Value} {F:Nat->Prop}:v.oneCell'=true->v.cells= #[v]->OT w G v .jk F
 |ow0 {a:Option Addr} {k:Nat} {F:Nat->Prop}:OT w G (.slice a 0 0) (.ow k []) F
 |ot0 {a:Option Addr} {k:Nat} {F:Nat->Prop}:OT w G (.slice a 0 0) (.ot k []) F
 |ow {b len cap k:Nat} {rows:List (List C)} {arr:Array Value} {e:TypeId} {F:Nat->Prop} (vals:Nat->Nat->Value):
  w.heap[b]?=some (.cells arr e (0,0))->rows.length=len->len<=cap->cap<=maxLen->cap*k<=arr.size->(∀r,r∈rows->r.length=k)->F b->
  (∀i r,rows[i]?=some r->∀j c,r[j]?=some c->arr[i*k+j]?=some (vals i j))->
  (∀i r,rows[i]?=some r->∀j c,r[j]?=some c->Rd w G (vals i j) c)->
  OT w G (.slice (some ⟨b,0,none⟩) len cap) (.ow k rows) F
 |ot {b len cap k:Nat} {rows:List (List C)} {arr:Array Value} {e:TypeId} {F:Nat->Prop} (vals:Nat->Nat->Value) (Fs:Nat->Nat->Nat->Prop):
  w.heap[b]?=some (.cells arr e (0,0))->rows.length=len->len<=cap->cap<=maxLen->cap*k<=arr.size->(∀r,r∈rows->r.length=k)->F b->
  (∀i j x,Fs i j x->F x/\x≠b)->(∀i j i' j' x,Fs i j x->Fs i' j' x->i=i'/\j=j')->
  (∀i r,rows[i]?=some r->∀j c,r[j]?=some c->arr[i*k+j]?=some (vals i j))->
  (∀i r,rows[i]?=some r->∀j c,r[j]?=some c->OT w G (vals i j) c (Fs i j))->
  OT w G (.slice (some ⟨b,0,none⟩) len cap) (.ot k rows) F
 |bx {b:Nat} {cells:List C} {arr:Array Value} {e:TypeId} {F:Nat->Prop} (vals:Nat->Value) (Fs:Nat->Nat->Prop):
  w.heap[b]?=some (.cells arr e (0,0))->arr.size=cells.length->F b->
  (∀j x,Fs j x->F x/\x≠b)->(∀j j' x,Fs j x->Fs j' x->j=j')->
  (∀(j:Nat) c,cells[j]?=some c->arr[j]?=some (vals j))->
  (∀(j:Nat) c,cells[j]?=some c->OT w G (vals j) c (Fs j))->
  OT w G (.pointer (some ⟨b,0,none⟩)) (.bx cells) F
def OT.mono{w w':World}{G G':Nat->Prop}{v:Value}{c:C}{F:Nat->Prop}(h:OT w G v c F)(hG:∀b,G b->G' b)
 (hc:∀(ad:Addr) (u:Value),G ad.block->w.cell? ad=some u->w'.cell? ad=some u):∀{F':Nat->Prop},(∀x,F x->F' x)->(∀x,F x->w'.heap[x]?=w.heap[x]?)->OT w' G' v c F':=by
 induction h with
 |sh h=>intro F' _ _;exact .sh (h.mono hG hc)
 |jk h h2=>intro F' _ _;exact .jk h h2
 |ow0=>intro F' _ _;exact .ow0
 |ot0=>intro F' _ _;exact .ot0
 |ow vals h1 h2 h3 h4 h5 h6 h7 h8 h9=>
  intro F' hF hh;exact .ow vals (by rw[hh _ h7];omega) h2 h3 h4 h5 h6 (hF _ h7) h8 (λi r hr j c hj=>(h9 i r hr j c hj).mono hG hc)
 |ot vals Fs h1 h2 h3 h4 h5 h6 h7 h8 h9 h10 _ ih=>
  intro F' hF hh;exact .ot vals Fs (by rw[hh _ h7];omega) h2 h3 h4 h5 h6 (hF _ h7) (λi j x hx=>⟨hF _ (h8 i j x hx).1,(h8 i j x hx).2⟩) h9 h10 (λi r hr j c hj=>ih i r hr j c hj (λ_ h=>h) λx hx=>hh x (h8 i j x hx).1)
 |bx vals Fs h1 h2 h3 h4 h5 h6 _ ih=>
  intro F' hF hh;exact .bx vals Fs (by rw[hh _ h3];omega) h2 (hF _ h3) (λj x hx=>⟨hF _ (h4 j x hx).1,(h4 j x hx).2⟩) h5 h6 (λj c hj=>ih j c hj (λ_ h=>h) λx hx=>hh x (h4 j x hx).1)
def OT.one{w:World}{G:Nat->Prop}{v:Value}{c:C}{F:Nat->Prop}(h:OT w G v c F):v.oneCell'=true:=by
 cases h<;>first|grind [Rd.one]|rfl|assumption
def OT.cells{w:World}{G:Nat->Prop}{v:Value}{c:C}{F:Nat->Prop}(h:OT w G v c F):v.cells= #[v]:=by
 cases h<;>first|grind [Rd.cells]|rfl|assumption
def OT.wf{w:World}{G:Nat->Prop}{v:Value}{c:C}{F:Nat->Prop}(h:OT w G v c F):c.WF:=by
 induction h with
 |sh h=>exact h.wf
 |jk=>simp[C.WF]
 |ow0=>simp[C.WF]
 |ot0=>simp[C.WF]
 |ow vals h1 h2 h3 h4 h5 h6 h7 h8 h9=>
  simp only[C.WF];refine⟨by omega,λr hr=>⟨h6 r hr,λc hc=>?_⟩⟩;obtain⟨i,hi⟩:=zat hr;obtain⟨j,hj⟩:=zat hc;exact(h9 i r hi j c hj).wf
 |ot vals Fs h1 h2 h3 h4 h5 h6 h7 h8 h9 h10 _ ih=>
  grind [List.getElem?_of_mem,C.WF]
 |bx vals Fs h1 h2 h3 h4 h5 h6 _ ih=>
  grind [List.getElem?_of_mem,C.WF]
def C.sz:C->Option (Nat×Nat)
 | .ow k rows=>some (k,rows.length)
 | .ot k rows=>some (k,rows.length)
 |_=>none
mutual
def C.shr:C->Option C
 | .i n=>some (.i n)
 | .b v=>some (.b v)
 | .u n=>some (.u n)
 | .q n=>some (.q n)
 | .s x=>some (.s x)
 | .sl k rows=>some (.sl k rows)
 | .ow k rows=>some (.sl k rows)
 | .ot k rows=>match yaq rows with
  |some r=>some (.sl k r)
  |none=>none
 | .bx _=>none
 | .jk=>none
def dO:List C->Option (List C)
 |[]=>some []
 |c::l=>match c.shr,dO l with
  |some x,some r=>some (x::r)
  |_,_=>none
def yaq:List (List C)->Option (List (List C))
 |[]=>some []
 |c::l=>match dO c,yaq l with
  |some x,some r=>some (x::r)
  |_,_=>none
end
def ygy:∀{l r:List C},dO l=some r->r.length=l.length/\∀(j:Nat) (y:C),r[j]?=some y->∃x,l[j]?=some x/\x.shr=some y
 |[],r,h=>by grind [dO]
 | c::l,r,h=>by
  simp only[dO]at h;split at h
  .rename_i x q h1 h2;cases h;obtain⟨e1,e2⟩:=ygy h2
   grind
  grind
def yoU:∀{l r:List (List C)},yaq l=some r->r.length=l.length/\∀(j:Nat) (y:List C),r[j]?=some y->∃x,l[j]?=some x/\dO x=some y
 |[],r,h=>by grind [yaq]
 | c::l,r,h=>by
  simp only[yaq]at h;split at h
  .rename_i x q h1 h2;cases h;obtain⟨e1,e2⟩:=yoU h2
   grind
  grind
theorem cell_of(w:World){b:Nat}{arr:Array Value}{e:TypeId}(h:w.heap[b]?=some (.cells arr e (0,0)))(j:Nat):w.cell? ⟨b,j,none⟩=arr[j]?:=cell_of_row w b j arr e (0,0) h
def OT.yqb{w:World}{G:Nat->Prop}{v:Value}{c:C}{F:Nat->Prop}(h:OT w G v c F):∀{y:C},c.shr=some y->∀{G':Nat->Prop},(∀b,G b->G' b)->(∀b,F b->G' b)->Rd w G' v y:=by
 induction h with
 | sh h=>
  intro y hy G' h1 h2;cases h with
  |i h=>simp[C.shr]at hy;subst hy;exact .i h
  |b=>simp[C.shr]at hy;subst hy;exact .b
  |u h=>simp[C.shr]at hy;subst hy;exact .u h
  |q h=>simp[C.shr]at hy;subst hy;exact .q h
  |s h=>simp[C.shr]at hy;subst hy;exact .s h
  |sl vals a1 a2 a3 a4 a5 a6 a7=>
   simp only[C.shr,Option.some.injEq]at hy;subst hy;exact Rd.mono (.sl vals a1 a2 a3 a4 a5 a6 a7) h1 (λ_ _ _ h=>h)
 |jk=>grind [C.shr]
 |ow0=>
  intro y hy G' h1 h2;simp only[C.shr,Option.some.injEq]at hy;subst hy;exact .sl (λ_ _=>default) rfl (Nat.le_refl _) (by omega) (by simp) (by simp) (by simp) (by simp)
 |ot0=>
  intro y hy G' h1 h2;simp[C.shr,yaq]at hy;subst hy;exact .sl (λ_ _=>default) rfl (Nat.le_refl _) (by omega) (by simp) (by simp) (by simp) (by simp)
 |ow vals a1 a2 a3 a4 a5 a6 a7 a8 a9=>
  intro y hy G' h1 h2;simp only[C.shr,Option.some.injEq]at hy;subst hy;refine .sl vals a2 a3 a4 a6 (λ_=>rfl) (λi r hr j c hj=>⟨_,rfl,h2 _ a7,?_⟩) (λi r hr j c hj=>(a9 i r hr j c hj).mono h1 (λ_ _ _ h=>h))
  grind [add_lit,cell_of]
 | @ot b0 len cap k rows arr e F vals Fs a1 a2 a3 a4 a5 a6 a7 a8 a9 a10 _ ih=>
  intro y hy G' h1 h2;simp only[C.shr]at hy;split at hy
  .rename_i q hq;cases hy;obtain⟨l1,l2⟩:=yoU hq
   have key:∀i r,q[i]?=some r->∀(j:Nat) c,r[j]?=some c->∃(r':List C) (c':C),rows[i]?=some r'/\r'[j]?=some c'/\c'.shr=some c:=λi r hr j c hc=>by
    obtain⟨r',e1,e2⟩:=l2 i r hr;obtain⟨c',e3,e4⟩:=(ygy e2).2 j c hc;exact⟨r',c',e1,e3,e4⟩
   refine .sl vals (by omega) a3 a4 (λr hr=>?_) (λ_=>rfl) (λi r hr j c hj=>⟨_,rfl,h2 _ a7,?_⟩) (λi r hr j c hj=>?_)
   .obtain⟨i,hi⟩:=zat hr;obtain⟨r',e1,e2⟩:=l2 i r hi;rw[(ygy e2).1]
    grind
   .grind [add_lit,cell_of]
   grind
  grind
 |bx=>grind [C.shr]
def ynm(w:World)(G:Nat->Prop)(arr:Array Value)(k:Nat)(rows:List (List C))(S:Nat->Prop)(b:Nat):Prop:=
 ∃(vals:Nat->Nat->Value) (Fs:Nat->Nat->Nat->Prop),(∀i j x,Fs i j x->S x/\x≠b)/\(∀i j i' j' x,Fs i j x->Fs i' j' x->i=i'/\j=j')/\
  (∀i r,rows[i]?=some r->∀j c,r[j]?=some c->arr[i*k+j]?=some (vals i j))/\
  (∀i r,rows[i]?=some r->∀j c,r[j]?=some c->OT w G (vals i j) c (Fs i j))
def ynm.mono{w w':World}{G G':Nat->Prop}{arr:Array Value}{k:Nat}{rows:List (List C)}{S S':Nat->Prop}{b:Nat}(h:ynm w G arr k rows S b)(hG:∀b,G b->G' b)
 (hc:∀(ad:Addr) (u:Value),G ad.block->w.cell? ad=some u->w'.cell? ad=some u) (hS:∀x,S x->S' x) (hh:∀x,S x->w'.heap[x]?=w.heap[x]?):ynm w' G' arr k rows S' b:=by
 obtain⟨vals,Fs,h1,h2,h3,h4⟩:=h;exact⟨vals,Fs,λi j x hx=>⟨hS x (h1 i j x hx).1,(h1 i j x hx).2⟩,h2,h3,λi r hr j c hj=>(h4 i r hr j c hj).mono hG hc (λ_ h=>h) λx hx=>hh x (h1 i j x hx).1⟩
structure Off(F:Nat->Prop)(w w':World):Prop where
 os:w'.os=w.os
 tape:w'.tape=w.tape
 output:w'.output=w.output
 size:w.heap.size<=w'.heap.size
 block:∀k,k<w.heap.size->¬F k->w'.heap[k]?=w.heap[k]?
 sized:∀k arr e,F k->w.heap[k]?=some (.cells arr e (0,0))->∃arr':Array Value,w'.heap[k]?=some (.cells arr' e (0,0))/\arr'.size=arr.size
def yxN{w:World}{k:Nat}{o:Go.Obj}(h:w.heap[k]?=some o):k<w.heap.size:=(zaJ.1 h).1
def Off.refl(F:Nat->Prop)(w:World):Off F w w:=⟨rfl,rfl,rfl,Nat.le_refl _,λ_ _ _=>rfl,λ_ arr _ _ h=>⟨arr,h,rfl⟩⟩
def Off.of_below{w w':World}(F:Nat->Prop)(h:Below w.heap.size w w'):Off F w w':=⟨h.os,h.tape,h.output,h.size,λk hk _=>h.block k hk,λk arr e _ hk=>⟨arr,by rw[h.block k (yxN hk)];omega,rfl⟩⟩
def Off.below{w w':World}(h:Off noF w w'):Below w.heap.size w w':=⟨h.os,h.tape,h.output,h.size,λk hk=>h.block k hk (λh=>h)⟩
def Off.any{F:Nat->Prop}{w w':World}(h:Off F w w'){k:Nat}{arr:Array Value}{e:TypeId}(hk:w.heap[k]?=some (.cells arr e (0,0))):∃arr':Array Value,w'.heap[k]?=some (.cells arr' e (0,0))/\arr'.size=arr.size:=by
 by_cases hf:F k
 .exact h.sized k arr e hf hk
 .exact⟨arr,by rw[h.block k (yxN hk) hf];omega,rfl⟩
def Off.then{F X:Nat->Prop}{a b c:World}(h:Off F a b)(k:Off X b c)(hx:∀q,X q->F q\/a.heap.size<=q):Off F a c:=
 ⟨k.os.trans h.os,k.tape.trans h.tape,k.output.trans h.output,zba h.size k.size,λq hq hf=>by
  rw[k.block q (zds hq h.size) λe=>?_,h.block q hq hf]
  grind,λq arr e _ hq=>by
  obtain⟨arr1,h1,h2⟩:=h.any hq;obtain⟨arr2,h3,h4⟩:=k.any h1
  grind⟩
def Off.drew{F:Nat->Prop}{a w:World}(h:Off F a w):Off F a w.drew:=⟨h.os,h.tape,h.output,h.size,h.block,h.sized⟩
def Off.alloc{F:Nat->Prop}{a w:World}(h:Off F a w)(o:Go.Obj):Off F a (w.alloc o):=
 h.then (X:=noF) (.of_below _ ((Below.refl _ _).alloc (Nat.le_refl _) o)) λ_ e=>e.elim
inductive AV where
 |any
 |und
 |c (x:C)
 |nil (k:Nat)
 |clip (k:Nat) (rows:List (List C))
 |box (id off:Nat)
 |row (id k:Nat) (i:Int) (off:Nat)
 |elt (cs:List C)
 |own (id k n:Nat)
 |agg (l:List AV)
 |tup (l:List AV)
 |sub (id ver:Nat) (i:Int) (j k n:Nat)
 |yak (id ver:Nat) (i:Int) (j k:Nat) (i':Int) (off:Nat)
 |cut (id k lo n:Nat)
 |fn (f:Nat) (l:List AV)
 |mpr (id:Nat)
 |gl (b:Nat) (o:Go.Obj)
 deriving Inhabited
inductive Obj where
 |none
 |box (cells:List AV)
 |row (k:Nat) (rows:List (List C))
 |tr (k ver:Nat) (rows:List (List C))
 |mp (kvs:List (Int×Int))
 deriving Inhabited
def mpL:Nat->List (Int×Int)->List MapEntry
 |_,[]=>[]
 |j,p::l=>⟨.int .i64 p.1,.int .i64 p.2,j⟩::mpL (j+1) l
def Obj.nO:Obj->Option (Nat×Nat)
 | .row k rows=>some (k,rows.length)
 | .tr k _ rows=>some (k,rows.length)
 |_=>Option.none
structure St where
 env:Nat->AV
 yRU:Nat->Obj
def upd{α:Type}(k:Nat)(v:α)(f:Nat->α):Nat->α:=λn=>if n=k then v else f n
def look{α:Type}(d:α):List (Nat×α)->Nat->α
 |[],_=>d
 |(k,v)::l,n=>if n=k then v else look d l n
section
variable (w:World) (G:Nat->Prop) (O:Nat->Obj) (blk:Nat->Option Nat)
def ywW(b:Option Nat)(k0:Nat)(rows:List (List C))(i j k n:Nat)(v:Value):Prop:=
 ∃q r c,b=some q/\w.cell? ⟨q,i*k0+j,Option.none⟩=some v/\rows[i]?=some r/\r[j]?=some c/\c.sz=some (k,n)
def RV1(v:Value):AV->Prop
 | .any=>True
 | .und=>v=undef
 | .c x=>Rd w G v x
 | .nil _=>v=.slice Option.none 0 0
 | .clip k rows=>∃a n,v=.slice a n n/\Rd w G v (.sl k rows)
 | .box id off=>∃b cells,O id=.box cells/\blk id=some b/\v=.pointer (some ⟨b,off,Option.none⟩)
 | .row id k i off=>∃b m,(O id).nO=some (k,m)/\blk id=some b/\v=.pointer (some ⟨b,i.toNat*k+off,Option.none⟩)
 | .elt cs=>∃ad,v=.pointer (some ad)/\∀j c,cs[j]?=some c->G ad.block/\∃u,w.cell? (ad.add j)=some u/\Rd w G u c
 | .own id k n=>∃m,(O id).nO=some (k,m)/\n<=m/\
  ((blk id=Option.none/\n=0/\∃A,v=.slice A 0 0)\/
   ∃b cap arr e,blk id=some b/\v=.slice (some ⟨b,0,Option.none⟩) n cap/\n<=cap/\cap<=maxLen/\w.heap[b]?=some (.cells arr e (0,0))/\cap*k<=arr.size)
 | .agg _=>False
 | .tup _=>False
 | .sub id ver i j k n=>∃k0 ver' rows,O id=.tr k0 ver' rows/\ver<=ver'/\(ver=ver'->ywW w (blk id) k0 rows i.toNat j k n v)
 | .yak id ver i j k i' off=>∃k0 ver' rows,O id=.tr k0 ver' rows/\ver<=ver'/\(ver=ver'->∃b len cap n,ywW w (blk id) k0 rows i.toNat j k n (.slice (some ⟨b,0,Option.none⟩) len cap)/\v=.pointer (some ⟨b,i'.toNat*k+off,Option.none⟩))
 | .cut id k lo n=>∃m A c,(O id).nO=some (k,m)/\lo+n<=m/\v=.slice A n c/\n<=c/\c<=maxLen/\(0<n->∃b,blk id=some b/\A=some ⟨b,lo*k,Option.none⟩)
 | .fn _ _=>False
 | .mpr id=>∃b kvs,O id=.mp kvs/\blk id=some b/\v=.map (some b)
 | .gl b o=>G b/\w.heap[b]?=some o
def RV2(v:Value):AV->Prop
 | .agg l=>∃arr:Array Value,v=.agg arr/\arr.size=l.length/\∀(j:Nat) (x:AV),l[j]?=some x->∃u:Value,arr[j]?=some u/\RV1 w G O blk u x
 | .fn f l=>∃arr:Array Value,v=.func (.func f) #[] arr/\arr.size=l.length/\∀(j:Nat) (x:AV),l[j]?=some x->∃u:Value,arr[j]?=some u/\RV1 w G O blk u x
 |x=>RV1 w G O blk v x
def RV(v:Value):AV->Prop
 | .tup l=>∃arr:Array Value,v=.tuple arr/\arr.size=l.length/\∀(j:Nat) (x:AV),l[j]?=some x->∃u:Value,arr[j]?=some u/\RV2 w G O blk u x
 |x=>RV2 w G O blk v x
def jU(S:Nat->Prop)(b:Option Nat):Obj->Prop
 | .none=>True
 | .box cells=>∃(g:Nat) (arr:Array Value) (e:TypeId),b=some g/\w.heap[g]?=some (.cells arr e (0,0))/\arr.size=cells.length/\
  ∀(j:Nat) (x:AV),cells[j]?=some x->∃u:Value,arr[j]?=some u/\RV1 w G O blk u x
 | .row k rows=>(b=Option.none/\rows=[])\/∃(g:Nat) (arr:Array Value) (e:TypeId),b=some g/\w.heap[g]?=some (.cells arr e (0,0))/\rows.length*k<=arr.size/\
  (∀r,r∈rows->r.length=k)/\∀(i:Nat) (r:List C) (j:Nat) (c:C),rows[i]?=some r->r[j]?=some c->∃u:Value,arr[i*k+j]?=some u/\Rd w G u c
 | .tr k _ rows=>(b=Option.none/\rows=[])\/∃(g:Nat) (arr:Array Value) (e:TypeId),b=some g/\w.heap[g]?=some (.cells arr e (0,0))/\rows.length*k<=arr.size/\
  (∀r,r∈rows->r.length=k)/\ynm w G arr k rows S g
 | .mp kvs=>∃g:Nat,b=some g/\w.heap[g]?=some (.map (mpL 0 kvs).toArray kvs.length)/\∀p,p∈kvs->inI p.1/\inI p.2
end
def Obj.like:Obj->Obj->Prop
 | .none,_=>True
 | .box _,.box _=>True
 | .row k rows,o=>∃n,o.nO=some (k,n)/\rows.length<=n
 | .tr k v rows,.tr k' v' rows'=>k'=k/\rows.length<=rows'.length/\v<=v'/\(v=v'->rows=rows')
 | .mp _,.mp _=>True
 |_,_=>False
def Obj.yxw(o:Obj):o.like o:=by cases o<;>simp_all [Obj.like,Obj.nO]
def Obj.ylf{o o':Obj}{k m:Nat}(h:o.like o')(hd:o.nO=some (k,m)):∃n,o'.nO=some (k,n)/\m<=n:=by
 cases o with
 |none=>grind [Obj.nO]
 |box _=>grind [Obj.nO]
 |mp _=>grind [Obj.nO]
 |row k0 rows=>simp[Obj.nO]at hd;obtain⟨rfl,rfl⟩:=hd;exact h
 |tr k0 v rows=>
  simp[Obj.nO]at hd;obtain⟨rfl,rfl⟩:=hd;cases o' with
  |tr k1 v1 rows1=>obtain⟨rfl,h1,_⟩:=h;exact⟨_,rfl,h1⟩
  |_=>exact h.elim
structure Keeps(w w':World)(G G':Nat->Prop)(O O':Nat->Obj)(blk blk':Nat->Option Nat):Prop where
 good:∀b,G b->G' b
 cell:∀(ad:Addr) (u:Value),G ad.block->w.cell? ad=some u->w'.cell? ad=some u
 like:∀id,O id≠.none->(O id).like (O' id)/\blk' id=blk id
 rows:∀id,O id≠.none->∀b arr e,blk id=some b->w.heap[b]?=some (.cells arr e (0,0))->∃arr':Array Value,w'.heap[b]?=some (.cells arr' e (0,0))/\arr'.size=arr.size
 subs:∀id k v rows,O id=.tr k v rows->O' id=.tr k v rows->∀b,blk id=some b->w'.heap[b]?=w.heap[b]?
 heap:∀(b:Nat) (o:Go.Obj),G b->w.heap[b]?=some o->w'.heap[b]?=some o
section
variable {w w':World} {G G':Nat->Prop} {O O':Nat->Obj} {blk blk':Nat->Option Nat} {v:Value} {x:AV}
theorem ywW.keep(K:Keeps w w' G G' O O' blk blk'){id k0 ver:Nat}{rows:List (List C)}{i j k n:Nat}(h1:O id=.tr k0 ver rows)(h2:O' id=.tr k0 ver rows)(h:ywW w (blk id) k0 rows i j k n v):ywW w' (blk' id) k0 rows i j k n v:=by
 obtain⟨q,r,c,e1,e2,e3⟩:=h;have hk:=(K.like id (by grind)).2;refine⟨q,r,c,hk.trans e1,?_,e3⟩;have:=K.subs id k0 ver rows h1 h2 q e1
 grind [World.cell?_of_block]
theorem RV1.keep(K:Keeps w w' G G' O O' blk blk')(h:RV1 w G O blk v x):RV1 w' G' O' blk' v x:=by
 cases x with
 |any=>trivial
 |und=>exact h
 |c x=>exact Rd.mono h K.good K.cell
 |nil k=>exact h
 |clip k rows=>obtain⟨a,n,e,hr⟩:=h;exact⟨a,n,e,hr.mono K.good K.cell⟩
 |gl b o=>exact⟨K.good b h.1,K.heap b o h.1 h.2⟩
 |fn f l=>exact h
 |cut id k lo n=>
  obtain⟨m,A,c,ho,hle,hv,h1,h2,h3⟩:=h;obtain⟨hl,hk⟩:=K.like id (by intro e;rw[e]at ho;cases ho);obtain⟨m',hm',hle'⟩:=Obj.ylf hl ho;exact⟨m',A,c,hm',by omega,hv,h1,h2,λhn=>let⟨b,hb,hA⟩:=h3 hn;⟨b,hk.trans hb,hA⟩⟩
 |box id off=>
  obtain⟨b,cells,ho,hb,e⟩:=h;obtain⟨hl,hk⟩:=K.like id (by grind);rw[ho]at hl;cases hO:O' id with
  |box cells'=>exact⟨b,cells',hO,hk.trans hb,e⟩
  |none=>rw[hO]at hl;exact hl.elim
  |row k rows=>rw[hO]at hl;exact hl.elim
  |tr k v rows=>rw[hO]at hl;exact hl.elim
  |mp _=>rw[hO]at hl;exact hl.elim
 |mpr id=>
  obtain⟨b,kvs,ho,hb,e⟩:=h;obtain⟨hl,hk⟩:=K.like id (by grind);rw[ho]at hl;cases hO:O' id with
  |mp kvs'=>exact⟨b,kvs',hO,hk.trans hb,e⟩
  |_=>rw[hO]at hl;exact hl.elim
 |row id k i off=>
  obtain⟨b,m,ho,hb,e⟩:=h;obtain⟨hl,hk⟩:=K.like id (by intro e;rw[e]at ho;cases ho);obtain⟨n,hn,_⟩:=Obj.ylf hl ho;exact⟨b,n,hn,hk.trans hb,e⟩
 |elt cs=>
  obtain⟨ad,e,hc⟩:=h;refine⟨ad,e,λj c hj=>?_⟩;obtain⟨hg,u,hu,hr⟩:=hc j c hj;exact⟨K.good _ hg,u,K.cell _ _ (by grind [block_add]) hu,hr.mono K.good K.cell⟩
 | own id k n=>
  obtain⟨m,ho,hn,h⟩:=h;have hne:O id≠.none:=by intro e;rw[e]at ho;cases ho
  obtain⟨hl,hk⟩:=K.like id hne;obtain⟨m',hm',hle⟩:=Obj.ylf hl ho;refine⟨m',hm',by omega,?_⟩;rcases h with⟨hb,h0,e⟩|⟨b,cap,arr,e,hb,hv,h1,h2,hh,hs⟩
  .grind
  .obtain⟨arr',hh',hs'⟩:=K.rows id hne b arr e hb hh
   simp_all
 |agg l=>exact h
 |tup l=>exact h
 | sub id ver i j k n=>
  obtain⟨k0,ver',rows,ho,hle,h⟩:=h;obtain⟨hl,hk⟩:=K.like id (by grind);rw[ho]at hl;cases hO:O' id with
  |tr k1 v1 rows1=>
   rw[hO]at hl;obtain⟨rfl,h1,h2,h3⟩:=hl;refine⟨k1,v1,rows1,hO,by omega,λe=>?_⟩;have e2:ver=ver':=by omega
   have e3:ver'=v1:=by omega
   obtain rfl:=h3 e3;subst e3;exact(h e2).keep K ho hO
  |box _=>rw[hO]at hl;exact hl.elim
  |none=>rw[hO]at hl;exact hl.elim
  |row k rows=>rw[hO]at hl;exact hl.elim
  |mp _=>rw[hO]at hl;exact hl.elim
 | yak id ver i j k i' off=>
  obtain⟨k0,ver',rows,ho,hle,h⟩:=h;obtain⟨hl,hk⟩:=K.like id (by grind);rw[ho]at hl;cases hO:O' id with
  |tr k1 v1 rows1=>
   rw[hO]at hl;obtain⟨rfl,h1,h2,h3⟩:=hl;refine⟨k1,v1,rows1,hO,by omega,λe=>?_⟩;have e2:ver=ver':=by omega
   have e3:ver'=v1:=by omega
   obtain rfl:=h3 e3;subst e3;obtain⟨b,len,cap,n,hs,hv⟩:=h e2;exact⟨b,len,cap,n,hs.keep K ho hO,hv⟩
  |box _=>rw[hO]at hl;exact hl.elim
  |none=>rw[hO]at hl;exact hl.elim
  |row k rows=>rw[hO]at hl;exact hl.elim
  |mp _=>rw[hO]at hl;exact hl.elim
theorem RV2.keep(K:Keeps w w' G G' O O' blk blk')(h:RV2 w G O blk v x):RV2 w' G' O' blk' v x:=by
 cases x
 case agg l=>
  obtain⟨arr,e,hs,hx⟩:=h;exact⟨arr,e,hs,λj x hj=>let⟨u,hu,hr⟩:=hx j x hj;⟨u,hu,hr.keep K⟩⟩
 case fn f l=>
  obtain⟨arr,e,hs,hx⟩:=h;exact⟨arr,e,hs,λj x hj=>let⟨u,hu,hr⟩:=hx j x hj;⟨u,hu,hr.keep K⟩⟩
 all_goals grind [RV1.keep,RV2]
theorem RV.keep(K:Keeps w w' G G' O O' blk blk')(h:RV w G O blk v x):RV w' G' O' blk' v x:=by
 cases x
 case tup l=>
  obtain⟨arr,e,hs,hx⟩:=h;exact⟨arr,e,hs,λj x hj=>let⟨u,hu,hr⟩:=hx j x hj;⟨u,hu,hr.keep K⟩⟩
 all_goals grind [RV2.keep,RV]
end
structure Lay where
 root:Nat->Option Nat
 sub:Nat->Nat->Prop
instance:CoeFun Lay λ_=>Nat->Option Nat:=⟨Lay.root⟩
instance:Coe Lay (Nat->Option Nat):=⟨Lay.root⟩
def Lay.fp(L:Lay)(id b:Nat):Prop:=L.root id=some b\/L.sub id b
def Lay.upd(L:Lay)(d:Nat)(r:Option Nat)(S:Nat->Prop):Lay:=⟨λi=>if i=d then r else L.root i,λi=>if i=d then S else L.sub i⟩
theorem Lay.eH(L:Lay)(d:Nat)(r:Option Nat)(S:Nat->Prop)(i:Nat):(L.upd d r S).root i=if i=d then r else L.root i:=rfl
theorem Lay.oN(L:Lay)(d:Nat)(r:Option Nat)(S:Nat->Prop)(i:Nat):(L.upd d r S).sub i=if i=d then S else L.sub i:=rfl
def Lay.ypg(L:Lay)(d:Nat)(r:Option Nat)(S:Nat->Prop)(i b:Nat):(L.upd d r S).fp i b=if i=d then(r=some b\/S b)else L.fp i b:=by
 grind [Lay.eH,Lay.oN,Lay.fp]
def jV:Nat:=1000000
structure ySm where
 w0:World
 G0:Nat->Prop
 F0:Nat->Prop
 N:Nat
 vs:Array Value
def ySm.val(g:ySm)(a:Act)(t:Nat):Value:=if t<jV then a.tmps.getD t undef else g.vs.getD (t-jV) undef
def Good(g:ySm)(O:Nat->Obj)(L:Lay)(w:World)(b:Nat):Prop:=
 ((g.G0 b\/g.F0 b)\/(g.w0.heap.size<=b/\b<w.heap.size))/\∀id,O id≠.none->¬L.fp id b
structure Repr(g:ySm)(s:St)(a:Act)(w:World)(L:Lay):Prop where
 size:a.tmps.size=g.N
 small:g.N<=jV
 defers:a.defers=[]
 below:Off g.F0 g.w0 w
 g0:∀b,g.G0 b->b<g.w0.heap.size
 f0:∀b,g.F0 b->b<g.w0.heap.size
 g0f:∀b,g.G0 b->¬g.F0 b
 env:∀t,RV w (Good g s.yRU L w) s.yRU L (g.val a t) (s.env t)
 yRU:∀id,jU w (Good g s.yRU L w) s.yRU L (L.sub id) (L id) (s.yRU id)
 new:∀id b,s.yRU id≠.none->L.fp id b->(g.F0 b\/g.w0.heap.size<=b)/\b<w.heap.size
 inj:∀i j b,s.yRU i≠.none->s.yRU j≠.none->L.fp i b->L.fp j b->i=j
 apart:∀id b,s.yRU id≠.none->L.root id=some b->¬L.sub id b
end Go.Proofs.YtdadkiofenhnbaaGreat
namespace Go.Proofs.YtdadkiofenhnbaaGreat
open Go.RowKit
inductive X where
 |t (n:Nat)
 |k (a:AV)
inductive IOp where
 |mv (x:X)
 |pick (c a b:X)
 |bin (op:BinOp) (x y:X)
 |beq (neg:Bool) (x y:X)
 |isn (x:X)
 |not (x:X)
 |neg (x:X)
 |idx (k:Nat) (x i:X)
 |ida (k n:Nat) (x i:X)
 |fld (off:Nat) (x:X)
 |ld1 (x:X)
 |ldn (n:Nat) (x:X)
 |st1 (x v:X)
 |stn (n:Nat) (x v:X)
 |box (n:Nat) (x:X)
 |alloc (zs:List AV)
 |alloca (k n:Nat) (z:List C)
 |mks (k by_:Nat) (z:List C) (l c:X)
 |bsl (k:Nat) (xs:List X)
 |bld (zs:List AV) (ps:List (Nat×Nat×X))
 |slc (k:Nat) (x:X) (lo hi mx:Option X)
 |sla (k n:Nat) (x hi:X)
 |len (x:X)
 |slen (x:X)
 |app (k by_:Nat) (x y:X)
 |appz (k by_:Nat) (z:List C) (x y:X)
 |mn (xs:List X)
 |mx (xs:List X)
 |ext (i:Nat) (x:X)
 |call (f:Nat) (xs:List X)
 |ixs (x i:X)
 |callv (f:X) (xs:List X)
 |cp (k:Nat) (x y:X)
 |cap (x:X)
 |nck (x:X)
 |seq (neg:Bool) (x y:X)
 |eqn (neg:Bool) (n:Nat) (x y:X)
 |mkm
 |mup (x y z:X)
 |mlk (x y:X)
 |exb (n:Nat) (x y:X)
 |scat (x y:X)
 |sls (x:X) (lo hi:Option X)
 |bit (op:BinOp) (x y:X)
 |binu (op:BinOp) (x y:X)
 |binw (op:BinOp) (x y:X)
 |cvt (n:Nat) (x:X)
 |mkf (f:Nat) (xs:List X)
 |bad
structure Ins where
 g:Option (Nat×Bool)
 d:Option Nat
 op:IOp
structure ySo where
 k:Nat
 note:Bool
 chk:List Nat
 i:Ins
inductive SC where
 |skip
 |reg (l:List Ins)
 |regq (l:List Ins)
 |rege (l:List ySo)
 |seq (a b:SC)
 |cond (x:X) (a b:SC)
 |block (id:Nat) (c:SC)
 |loop (c:SC)
 |exit (id:Nat)
 |ret
inductive Ex where
 |normal
 |exit (id:Nat)
 |ret
def St.ev(s:St):X->AV
 | .t n=>s.env n
 | .k a=>a
def St.put(s:St)(d:Option Nat)(v:AV):St:=
 match d with
 |some d=>⟨upd d v s.env,s.yRU⟩
 |none=>s
def St.ob(s:St)(id:Nat):Obj:=s.yRU id
def St.iG(s:St)(id:Nat)(o:Obj):St:=⟨s.env,upd id o s.yRU⟩
def Obj.isNone:Obj->Bool| .none=>true|_=>false
def Obj.tree:Obj->Bool| .tr _ _ _=>true|_=>false
def AV.lH:AV->Bool
 | .any| .und| .agg _| .tup _| .fn _ _| .sub _ _ _ _ _ _| .yak _ _ _ _ _ _ _| .mpr _| .gl _ _=>false
 |_=>true
def C.plain:C->Bool
 | .ow _ _| .ot _ _| .bx _| .jk=>false
 |_=>true
def AV.toC:AV->Option C
 | .c x=>some x
 | .clip k rows=>some (.sl k rows)
 | .nil k=>some (.sl k [])
 |_=>none
def AV.cellsOf:AV->List AV
 | .agg l=>l
 |x=>[x]
def AV.ybe(id:Nat):AV->Bool
 | .box i _| .row i _ _ _| .own i _ _| .sub i _ _ _ _ _| .yak i _ _ _ _ _ _| .cut i _ _ _| .mpr i=>i != id
 |_=>true
def AV.fV(id:Nat)(x:AV):AV:=if x.ybe id then x else .any
def AV.yCX(id:Nat):AV->Bool
 | .agg m=>m.all (AV.ybe id)
 | .fn _ m=>m.all (AV.ybe id)
 |y=>y.ybe id
def AV.kill(id:Nat):AV->AV
 | .agg l=>.agg (l.map (AV.fV id))
 | .fn f l=>if l.all (AV.ybe id)then .fn f l else .any
 | .tup l=>if l.all (AV.yCX id)then .tup l else .any
 |x=>x.fV id
def Obj.kill(id:Nat):Obj->Obj
 | .box l=>.box (l.map (AV.fV id))
 |o=>o
def St.renew(s:St)(id:Nat)(o:Obj):St:=⟨λt=>(s.env t).kill id,upd id o λi=>(s.yRU i).kill id⟩
def St.drop(s:St)(id:Nat):St:=s.renew id .none
def St.drops(s:St):List Nat->St
 |[]=>s
 |i::l=>(s.drop i).drops l
def pk1(s:St):AV->Option (C×List Nat)
 | .c x=>if x.plain then some (x,[])else none
 | .clip k rows=>some (.sl k rows,[])
 | .nil k=>some (.sl k [],[])
 | .own id k n=>match s.ob id with
  | .row k' rows=>if k'=k then some (.ow k (rows.take n),[id])else none
  | .tr k' _ rows=>if k'=k then some (.ot k (rows.take n),[id])else none
  |_=>none
 |_=>none
def pkl(s:St):List AV->Option (List C×List Nat)
 |[]=>some ([],[])
 |x::l=>match pk1 s x,pkl s l with
  |some (c,a),some (cs,as)=>some (c::cs,a++as)
  |_,_=>none
def pks(s:St):List AV->Option (List (List C)×List Nat)
 |[]=>some ([],[])
 |x::l=>match pkl s x.cellsOf,pks s l with
  |some (c,a),some (cs,as)=>some (c::cs,a++as)
  |_,_=>none
def C.av(id ver:Nat)(i:Int)(j:Nat):C->AV
 | .ow k rows=>.sub id ver i j k rows.length
 | .ot k rows=>.sub id ver i j k rows.length
 | .bx _=>.any
 | .jk=>.any
 |x=>.c x
def C.av2:C->AV
 | .ow _ _| .ot _ _| .bx _| .jk=>.any
 |x=>.c x
def avs(id ver:Nat)(i:Int):Nat->List C->List AV
 |_,[]=>[]
 |j,c::l=>c.av id ver i j::avs id ver i (j+1) l
def cellAt(rows:List (List C))(i j:Nat):Option C:=match rows[i]? with|some r=>r[j]?|none=>none
def setAt(rows:List (List C))(i j:Nat)(c:C):List (List C):=rows.set i ((rows.getD i []).set j c)
def yni(op:BinOp)(a b:Int)(k:AV->Prop):Prop:=
 match op with
 | .add=>inI (a+b)/\k (.c (.i (a+b)))
 | .sub=>inI (a-b)/\k (.c (.i (a-b)))
 | .mul=>inI (a*b)/\k (.c (.i (a*b)))
 | .quo=>b≠0/\inI (a.tdiv b)/\k (.c (.i (a.tdiv b)))
 | .rem=>b≠0/\inI (a.tmod b)/\k (.c (.i (a.tmod b)))
 | .eql=>k (.c (.b (decide (a=b))))
 | .neq=>k (.c (.b (!decide (a=b))))
 | .lss=>k (.c (.b (decide (a<b))))
 | .leq=>k (.c (.b (decide (a<=b))))
 | .gtr=>k (.c (.b (decide (b<a))))
 | .geq=>k (.c (.b (decide (b<=a))))
 |_=>False
def yvc(op:BinOp)(x y:AV)(k:AV->Prop):Prop:=
 match x,y with
 | .c (.i a),.c (.i b)=>yni op a b k
 |_,_=>False
def yr8(neg:Bool)(x y:AV)(k:AV->Prop):Prop:=
 match x,y with
 | .c (.b a),.c (.b b)=>k (.c (.b (if neg then !decide (a=b)else decide (a=b))))
 |_,_=>False
def yxF(x:AV)(k:AV->Prop):Prop:=
 match x with
 | .c (.sl _ rows)=>∀v:Bool,(v=true->rows=[])->k (.c (.b v))
 | .nil _=>k (.c (.b true))
 | .own _ _ n=>∀v:Bool,(v=true->n=0)->k (.c (.b v))
 |_=>False
def ydP(c a b:AV)(k:AV->Prop):Prop:=
 match c with
 | .c (.b t)=>match a,b with
  | .c (.b x),.c (.b y)=>k (.c (.b (cond t x y)))
  |x,y=>(t=true->k x)/\(t=false->k y)
 |_=>False
def ymX(k:Nat)(s:St)(x i:AV)(K:AV->Prop):Prop:=
 match x,i with
 | .c (.sl k' rows),.c (.i n)=>k'=k/\0<=n/\n<rows.length/\K (.elt (rows.getD n.toNat []))
 | .clip k' rows,.c (.i n)=>k'=k/\0<=n/\n<rows.length/\K (.elt (rows.getD n.toNat []))
 | .own id k' m,.c (.i n)=>k'=k/\0<=n/\n<(m:Int)/\K (.row id k n 0)
 | .cut id k' lo m,.c (.i n)=>k'=k/\0<=n/\n<(m:Int)/\K (.row id k (lo+n) 0)
 | .sub id ver i j k' m,.c (.i n)=>match s.ob id with
  | .tr _ ver' _=>ver'=ver/\k'=k/\0<=n/\n<(m:Int)/\K (.yak id ver i j k n 0)
  |_=>False
 |_,_=>False
def yve(k n:Nat)(x i:AV)(K:AV->Prop):Prop:=
 match x,i with
 | .row id k' j 0,.c (.i m)=>k'=k/\j=0/\0<=m/\m<(n:Int)/\K (.row id k m 0)
 |_,_=>False
def yny(off:Nat)(s:St)(x:AV)(K:AV->Prop):Prop:=
 match x with
 | .box id o=>K (.box id (o+off))
 | .row id k i o=>K (.row id k i (o+off))
 | .elt cs=>K (.elt (cs.drop off))
 | .yak id ver i j k i' o=>match s.ob id with
  | .tr _ ver' _=>ver'=ver/\K (.yak id ver i j k i' (o+off))
  |_=>False
 |_=>False
def ylI(s:St)(x:AV)(K:AV->Prop):Prop:=
 match x with
 | .box id o=>match s.ob id with
  | .box cells=>match cells[o]? with
   |some v=>K v
   |none=>False
  |_=>False
 | .row id k i o=>match s.ob id with
  | .row k' rows=>k'=k/\i.toNat<rows.length/\o<k/\K (.c ((rows.getD i.toNat []).getD o default))
  | .tr k' ver rows=>k'=k/\i.toNat<rows.length/\o<k/\K (((rows.getD i.toNat []).getD o default).av id ver i o)
  |_=>False
 | .yak id ver i j k i' o=>match s.ob id with
  | .tr _ ver' rows=>ver'=ver/\match cellAt rows i.toNat j with
   |some (.ow k' rs)=>k'=k/\i'.toNat<rs.length/\o<k/\K (.c ((rs.getD i'.toNat []).getD o default))
   |some (.ot k' rs)=>k'=k/\i'.toNat<rs.length/\o<k/\K ((rs.getD i'.toNat []).getD o default).av2
   |_=>False
  |_=>False
 | .elt cs=>match cs with
  |c::_=>K (.c c)
  |[]=>False
 |_=>False
def ylz(n:Nat)(s:St)(x:AV)(K:AV->Prop):Prop:=
 match x with
 | .box id o=>match s.ob id with
  | .box cells=>o+n<=cells.length/\K (.agg ((cells.drop o).take n))
  |_=>False
 | .row id k i o=>match s.ob id with
  | .row k' rows=>k'=k/\i.toNat<rows.length/\o+n<=k/\K (.agg ((((rows.getD i.toNat []).drop o).take n).map .c))
  | .tr k' ver rows=>k'=k/\i.toNat<rows.length/\o+n<=k/\K (.agg (avs id ver i o (((rows.getD i.toNat []).drop o).take n)))
  |_=>False
 | .yak id ver i j k i' o=>match s.ob id with
  | .tr _ ver' rows=>ver'=ver/\match cellAt rows i.toNat j with
   |some (.ow k' rs)=>k'=k/\i'.toNat<rs.length/\o+n<=k/\K (.agg ((((rs.getD i'.toNat []).drop o).take n).map .c))
   |some (.ot k' rs)=>k'=k/\i'.toNat<rs.length/\o+n<=k/\K (.agg ((((rs.getD i'.toNat []).drop o).take n).map C.av2))
   |_=>False
  |_=>False
 | .elt cs=>n<=cs.length/\K (.agg ((cs.take n).map .c))
 |_=>False
def ylB (s:St) (x v:AV) (K:St->Prop):Prop:=
 match x with
 | .box id o=>match s.ob id with
  | .box cells=>o<cells.length/\v.lH=true/\K (s.iG id (.box (cells.set o v)))
  |_=>False
 | .row id k i o=>match s.ob id with
  | .row k' rows=>match v.toC with
   |some c=>k'=k/\i.toNat<rows.length/\o<k/\K (s.iG id (.row k (rows.set i.toNat ((rows.getD i.toNat []).set o c))))
   |none=>False
  | .tr k' ver rows=>match pk1 s v with
   |some (c,ids)=>k'=k/\i.toNat<rows.length/\o<k/\ids.Nodup/\id∉ids/\K ((s.drops ids).iG id (.tr k (ver+1) (setAt rows i.toNat o c)))
   |none=>False
  |_=>False
 | .yak id ver i j k i' o=>match s.ob id with
  | .tr k0 ver' rows=>ver'=ver/\match cellAt rows i.toNat j with
   |some (.ow k' rs)=>match v.toC with
    |some c=>k'=k/\i'.toNat<rs.length/\o<k/\K (s.iG id (.tr k0 (ver+1) (setAt rows i.toNat j (.ow k (setAt rs i'.toNat o c)))))
    |none=>False
   |_=>False
  |_=>False
 |_=>False
def AV.yhD:List AV->Option (List C)
 |[]=>some []
 |x::l=>match x.toC,AV.yhD l with
  |some c1,some cs=>some (c1::cs)
  |_,_=>none
def ynn (n:Nat) (s:St) (x v:AV) (K:St->Prop):Prop:=
 match v with
 | .agg l=>l.length=n/\match x with
  | .box id o=>match s.ob id with
   | .box cells=>o+n<=cells.length/\l.all AV.lH=true/\K (s.iG id (.box (cells.take o++l++cells.drop (o+n))))
   |_=>False
  | .row id k i o=>match s.ob id with
   | .row k' rows=>match AV.yhD l with
    |some cs=>k'=k/\i.toNat<rows.length/\o+n<=k/\
     K (s.iG id (.row k (rows.set i.toNat ((rows.getD i.toNat []).take o++cs++(rows.getD i.toNat []).drop (o+n)))))
    |none=>False
   | .tr k' ver rows=>match pkl s l with
    |some (cs,ids)=>k'=k/\i.toNat<rows.length/\o+n<=k/\ids.Nodup/\id∉ids/\
     K ((s.drops ids).iG id (.tr k (ver+1) (rows.set i.toNat ((rows.getD i.toNat []).take o++cs++(rows.getD i.toNat []).drop (o+n)))))
    |none=>False
   |_=>False
  |_=>False
 |_=>False
def newP(s:St)(d:Option Nat)(o:Obj)(v:Nat->AV)(K:St->Prop):Prop:=
 match d with
 |some d=>(s.ob d).isNone=true/\K ⟨upd d (v d) s.env,upd d o s.yRU⟩
 |none=>False
def yIq(n:Nat)(s:St)(d:Option Nat)(x:AV)(K:St->Prop):Prop:=
 x.cellsOf.length=n/\x.cellsOf.all AV.lH=true/\newP s d (.box x.cellsOf) (λd=>.box d 0) K
def mkP(k:Nat)(z:List C)(n:Nat)(s:St)(d:Option Nat)(K:St->Prop):Prop:=
 newP s d (.row k (List.replicate n z)) (λd=>.own d k n) K\/
 match z with
 |[.sl k0 []]=>newP s d (.tr k 0 (List.replicate n [.ow k0 []])) (λd=>.own d k n) K
 |_=>False
def yvA(k by_:Nat)(z:List C)(s:St)(d:Option Nat)(l c:AV)(K:St->Prop):Prop:=
 match l,c with
 | .c (.i n),.c (.i m)=>0<=n/\n<=m/\(by_:Int)*m<=281474976710656/\mkP k z n.toNat s d K
 |_,_=>False
def AV.rowOf(x:AV):Option (List C):=AV.yhD x.cellsOf
def AV.rowsOf:List AV->Option (List (List C))
 |[]=>some []
 |x::l=>match x.rowOf,AV.rowsOf l with
  |some c1,some cs=>some (c1::cs)
  |_,_=>none
def yru(k:Nat)(xs:List AV)(s:St)(d:Option Nat)(K:St->Prop):Prop:=
 match AV.rowsOf xs with
 |some rows=>(∀r∈rows,r.length=k)/\newP s d (.row k rows) (λd=>.own d k rows.length) K
 |none=>match pks s xs with
  |some (rows,ids)=>(∀r∈rows,r.length=k)/\ids.Nodup/\newP (s.drops ids) d (.tr k 0 rows) (λd=>.own d k rows.length) K
  |none=>False
def yhr(k:Nat)(x:AV)(lo hi mx:Option AV)(K:AV->Prop):Prop:=
 match x,lo,hi,mx with
 | .c (.sl k' rows),some (.c (.i l)),some (.c (.i h)),none=>k'=k/\0<=l/\l<=h/\h<=rows.length/\K (.c (.sl k ((rows.take h.toNat).drop l.toNat)))
 | .c (.sl k' rows),some (.c (.i l)),none,none=>k'=k/\0<=l/\l<=rows.length/\K (.c (.sl k (rows.drop l.toNat)))
 | .c (.sl k' rows),none,some (.c (.i h)),none=>k'=k/\0<=h/\h<=rows.length/\K (.c (.sl k (rows.take h.toNat)))
 | .c (.sl k' rows),none,some (.c (.i h)),some (.c (.i m))=>k'=k/\0<=h/\h=m/\h<=rows.length/\K (.clip k (rows.take h.toNat))
 | .own id k' n,none,some (.c (.i h)),none=>k'=k/\0<=h/\h<=(n:Int)/\K (.own id k h.toNat)
 | .own id k' n,some (.c (.i l)),none,none=>k'=k/\0<=l/\l<=(n:Int)/\K (.cut id k l.toNat (n-l.toNat))
 | .own id k' n,some (.c (.i l)),some (.c (.i h)),none=>k'=k/\0<=l/\l<=h/\h<=(n:Int)/\K (.cut id k l.toNat (h.toNat-l.toNat))
 | .nil _,none,some (.c (.i h)),none=>h=0/\K (.nil k)
 | .nil _,none,some (.c (.i h)),some (.c (.i m))=>h=0/\m=0/\K (.nil k)
 |_,_,_,_=>False
def ypt(k n:Nat)(s:St)(x hi:AV)(K:AV->Prop):Prop:=
 match x,hi with
 | .row id k' j 0,.c (.i h)=>match s.ob id with
  | .row _ rows=>k'=k/\j=0/\0<=h/\h<=rows.length/\rows.length=n/\K (.own id k h.toNat)
  |_=>False
 |_,_=>False
def ylv(s:St)(x:AV)(K:AV->Prop):Prop:=
 match x with
 | .c (.sl _ rows)=>rows.length<=maxLen->K (.c (.i rows.length))
 | .clip _ rows=>rows.length<=maxLen->K (.c (.i rows.length))
 | .own _ _ n=>n<=maxLen->K (.c (.i n))
 | .cut _ _ _ n=>n<=maxLen->K (.c (.i n))
 | .sub id ver _ _ _ n=>match s.ob id with
  | .tr _ ver' _=>ver'=ver/\(n<=maxLen->K (.c (.i n)))
  |_=>False
 | .nil _=>K (.c (.i 0))
 |_=>False
def yom(x:AV)(K:AV->Prop):Prop:=
 match x with
 | .c (.s bs)=>bs.size<=maxLen->K (.c (.i bs.size))
 |_=>False
def yd6(s:St):List (Nat×Nat×X)->List AV->(List AV->Prop)->Prop
 |[],l,K=>K l
 |(o,n,x)::ps,l,K=>(s.ev x).cellsOf.length=n/\(s.ev x).cellsOf.all AV.lH=true/\o+n<=l.length/\yd6 s ps (l.take o++(s.ev x).cellsOf++l.drop (o+n)) K
def dI(s:St)(k:Nat):AV->Option (List (List C))
 | .c (.sl k' rows)=>if k'=k then some rows else none
 | .clip k' rows=>if k'=k then some rows else none
 | .own id k' n=>match s.ob id with
  | .row _ rows=>if k'=k then some (rows.take n)else none
  |_=>none
 | .cut id k' lo n=>match s.ob id with
  | .row _ rows=>if k'=k then some ((rows.drop lo).take n)else none
  |_=>none
 | .nil _=>some []
 |_=>none
def ydk(s:St)(k:Nat):AV->Option (Nat×List (List C))
 | .own id k' n=>match s.ob id with
  | .tr _ _ rows=>if k'=k then some (id,rows.take n)else none
  |_=>none
 |_=>none
def yjm (k by_:Nat) (s:St) (d:Option Nat) (x y:AV) (K:St->Prop):Prop:=
 match dI s k y with
 | some new=>match x with
  | .nil _=>new.length*by_<=140737488355328/\newP s d (.row k new) (λd=>.own d k new.length) K
  | .clip k' rows=>k'=k/\(0<new.length\/rows.length=0)/\(rows.length+new.length)*by_<=140737488355328/\newP s d (.row k (rows++new)) (λd=>.own d k (rows.length+new.length)) K
  | .own id k' n=>match s.ob id with
   | .row _ rows=>k'=k/\n=rows.length/\(rows.length+new.length)*by_<=140737488355328/\
    K ((s.renew id (.row k (rows++new))).put d (.own id k (rows.length+new.length)))
   | .tr _ _ rows=>k'=k/\n=rows.length/\(rows.length+new.length)*by_<=140737488355328/\
    K ((s.renew id (.tr k 0 (rows++new))).put d (.own id k (rows.length+new.length)))
   |_=>False
  | .sub id ver i j k' n=>match s.ob id with
   | .tr k0 ver' rows=>ver'=ver/\match cellAt rows i.toNat j with
    |some (.ow k2 rs)=>k'=k/\k2=k/\(rs.length+new.length)*by_<=140737488355328/\match d with
     |some d=>(s.ob d).isNone=true/\K (((s.iG id (.tr k0 (ver+1) (setAt rows i.toNat j .jk))).renew d (.row k (rs++new))).put (some d) (.own d k (rs.length+new.length)))
     |none=>False
    |some (.ot k2 rs)=>k'=k/\k2=k/\(rs.length+new.length)*by_<=140737488355328/\match d with
     |some d=>(s.ob d).isNone=true/\K (((s.iG id (.tr k0 (ver+1) (setAt rows i.toNat j .jk))).renew d (.tr k 0 (rs++new))).put (some d) (.own d k (rs.length+new.length)))
     |none=>False
    |_=>False
   |_=>False
  |_=>False
 | none=>match ydk s k y with
  | some (idy,new)=>match x with
   | .nil _=>new.length*by_<=140737488355328/\newP (s.drop idy) d (.tr k 0 new) (λd=>.own d k new.length) K
   | .own id k' n=>id≠idy/\match s.ob id with
    | .row _ rows=>k'=k/\n=rows.length/\(rows.length+new.length)*by_<=140737488355328/\
     K (((s.drop idy).renew id (.tr k 0 (rows++new))).put d (.own id k (rows.length+new.length)))
    | .tr _ _ rows=>k'=k/\n=rows.length/\(rows.length+new.length)*by_<=140737488355328/\
     K (((s.drop idy).renew id (.tr k 0 (rows++new))).put d (.own id k (rows.length+new.length)))
    |_=>False
   |_=>False
  |none=>False
def ywS(k by_:Nat)(z:List C)(s:St)(d:Option Nat)(x n:AV)(K:St->Prop):Prop:=
 match x,n with
 | .nil _,.c (.i m)=>0<=m/\m.toNat*by_<=140737488355328/\newP s d (.row k (List.replicate m.toNat z)) (λd=>.own d k m.toNat) K
 |_,_=>False
def intsOf:List AV->Option (List Int)
 |[]=>some []
 | .c (.i n)::l=>(intsOf l).map (n::·)
 |_=>none
def mmP(f:Int->Int->Int)(l:List AV)(K:AV->Prop):Prop:=
 match intsOf l with
 |some (n::r)=>K (.c (.i (r.foldl f n)))
 |_=>False
def yrj(i:Nat)(x:AV)(K:AV->Prop):Prop:=
 match x with
 | .tup l=>match l[i]? with
  |some v=>i<1048576/\K v
  |none=>False
 | .agg l=>match l[i-1048576]? with
  |some v=>1048576<=i/\K v
  |none=>False
 |_=>False
def yat(P:Program)(f:Nat)(xs:List AV)(d:Option Nat)(s:St)(K:St->Prop):Prop:=
 ∀(g:ySm) (a:Act) (w:World) (blk:Lay),Repr g s a w blk->(∀i,d=some i->i<g.N)->∀vs:Array Value,vs.size=xs.length->
  (∀(j:Nat) (x:AV),xs[j]?=some x->∃u:Value,vs[j]?=some u/\RV w (Good g s.yRU blk w) s.yRU blk u x)->
  Calls P f vs w λe w'=>∃v,e=.returned v/\∃s' blk',K s'/\Repr g s' (a.put d v) w' blk'
def ypK(P:Program)(f:AV)(xs:List AV)(d:Option Nat)(s:St)(K:St->Prop):Prop:=
 match f with
 | .fn f l=>(∃fn,P.funcs[f]?=some fn∧fn.body.isSome=true∧(fn.name != "runtime.NumGoroutine")=true)∧yat P f (xs++l) d s K
 |_=>False
def cpP(k:Nat)(s:St)(d:Option Nat)(x y:AV)(K:St->Prop):Prop:=
 match dI s k y with
 | some new=>match x with
  | .own id k' n=>match s.ob id with
   | .row _ rows=>k'=k/\n<=rows.length/\K ((s.iG id (.row k (new.take n++rows.drop (min new.length n)))).put d (.c (.i (min new.length n:Nat))))
   |_=>False
  |_=>False
 |none=>False
def yv8(x:AV)(K:AV->Prop):Prop:=
 match x with
 | .nil _=>K (.c (.i 0))
 | .clip _ rows=>rows.length<=maxLen->K (.c (.i rows.length))
 | .c (.sl _ rows)=>∀n:Nat,rows.length<=n->n<=maxLen->K (.c (.i n))
 | .own _ _ m=>∀n:Nat,m<=n->n<=maxLen->K (.c (.i n))
 |_=>False
def ypl(x:AV)(K:AV->Prop):Prop:=
 match x with
 | .box id o=>K (.box id o)
 | .row id k i o=>K (.row id k i o)
 | .elt cs=>K (.elt cs)
 |_=>False
def yvw(neg:Bool)(x y:AV)(k:AV->Prop):Prop:=
 match x,y with
 | .c (.s a),.c (.s b)=>k (.c (.b (if neg then !decide (a=b)else decide (a=b))))
 |_,_=>False
def yft(n:Int):Nat->List (Int×Int)->Option (Nat×Int)
 |_,[]=>none
 |j,p::l=>if n=p.1 then some (j,p.2)else yft n (j+1) l
def ytd(n:Int)(l:List (Int×Int)):Int:=match yft n 0 l with
 |some p=>p.2
 |none=>0
def yiC(l:List (Int×Int))(j:Nat)(v:Int):List (Int×Int):=l.modify j λp=>(p.1,v)
def yu0(n v:Int)(l:List (Int×Int)):List (Int×Int):=match yft n 0 l with
 |some p=>yiC l p.1 v
 |none=>l++[(n,v)]
def yID(s:St)(m x v:AV)(K:St->Prop):Prop:=
 match m,x,v with
 | .mpr id,.c (.i n),.c (.i v)=>match s.ob id with
  | .mp kvs=>K (s.iG id (.mp (yu0 n v kvs)))
  |_=>False
 |_,_,_=>False
def exbP(n:Nat)(x y:AV)(k:AV->Prop):Prop:=
 match x,y with
 | .c (.s bs),.c (.u c)=>k (.c (.i (if n=0 then(Lib.countByte bs.data.toList c.toUInt8:Int)else Lib.indexByte bs.data.toList c.toUInt8)))
 |_,_=>False
def yIS(s:St)(m x:AV)(k:AV->Prop):Prop:=
 match m,x with
 | .mpr id,.c (.i n)=>match s.ob id with
  | .mp kvs=>k (.c (.i (ytd n kvs)))
  |_=>False
 |_,_=>False
def yy1(neg:Bool)(q:Nat)(x y:AV)(k:AV->Prop):Prop:=
 match x,y with
 | .agg a,.agg b=>match intsOf a,intsOf b with
  |some m,some n=>m.length=q/\n.length=q/\k (.c (.b (if neg then !decide (m=n)else decide (m=n))))
  |_,_=>False
 |_,_=>False
def yn9(x y:AV)(k:AV->Prop):Prop:=
 match x,y with
 | .c (.s a),.c (.s b)=>a.size+b.size<=maxLen/\k (.c (.s (a++b)))
 |_,_=>False
def yuk(x:AV)(lo hi:Option AV)(K:AV->Prop):Prop:=
 match x,lo,hi with
 | .c (.s a),some (.c (.i l)),some (.c (.i h))=>0<=l/\l<=h/\h<=a.size/\K (.c (.s (a.extract l.toNat h.toNat)))
 | .c (.s a),some (.c (.i l)),none=>0<=l/\l<=a.size/\K (.c (.s (a.extract l.toNat a.size)))
 | .c (.s a),none,some (.c (.i h))=>0<=h/\h<=a.size/\K (.c (.s (a.extract 0 h.toNat)))
 |_,_,_=>False
def yyw(x i:AV)(K:AV->Prop):Prop:=
 match x,i with
 | .c (.s bs),.c (.i n)=>0<=n/\n<bs.size/\K (.c (.u (bs[n.toNat]?.getD 0).toNat))
 |_,_=>False
def notP(x:AV)(K:AV->Prop):Prop:=match x with| .c (.b v)=>K (.c (.b !v))|_=>False
def yyb(x:AV)(K:AV->Prop):Prop:=match x with| .c (.i v)=>inI (-v)/\K (.c (.i (-v)))|_=>False
def yG1(a b:Int):Int:=IntKind.i64.wrap (BitVec.ofInt 64 a&&& BitVec.ofInt 64 b).toNat
def yHQ(a b:Int):Int:=IntKind.i64.wrap (BitVec.ofInt 64 a^^^BitVec.ofInt 64 b).toNat
def yy4(a n:Int):Int:=IntKind.i64.wrap (a*2^(min n.toNat 64))
def yzh(a n:Int):Int:=a.fdiv (2^(min n.toNat 64))
def ykN(op:BinOp)(x y:AV)(k:AV->Prop):Prop:=
 match x,y with
 | .c (.i a),.c (.i b)=>match op with
  | .and=>k (.c (.i (yG1 a b)))
  | .xor=>k (.c (.i (yHQ a b)))
  | .shl=>0<=b/\k (.c (.i (yy4 a b)))
  | .shr=>0<=b/\k (.c (.i (yzh a b)))
  |_=>False
 | .c (.q a),.c (.i b)=>match op with
  | .shr=>0<=b/\k (.c (.q (a/2^(min b.toNat 64))))
  |_=>False
 |_,_=>False
def ylX(op:BinOp)(x y:AV)(k:AV->Prop):Prop:=
 match x,y with
 | .c (.i a),.c (.i b)=>match op with
  | .add=>k (.c (.i (IntKind.i64.wrap (a+b))))
  | .mul=>k (.c (.i (IntKind.i64.wrap (a*b))))
  |_=>False
 |_,_=>False
def ydd(op:BinOp)(x y:AV)(k:AV->Prop):Prop:=
 match x,y with
 | .c (.u a),.c (.u b)=>match op with
  | .add=>k (.c (.u ((a+b)%256)))
  | .sub=>k (.c (.u ((a+256-b)%256)))
  | .eql=>k (.c (.b (decide (a=b))))
  | .neq=>k (.c (.b (!decide (a=b))))
  | .lss=>k (.c (.b (decide (a<b))))
  | .leq=>k (.c (.b (decide (a<=b))))
  | .gtr=>k (.c (.b (decide (b<a))))
  | .geq=>k (.c (.b (decide (b<=a))))
  |_=>False
 |_,_=>False
def yBD(b:UInt8):List C:=[.u b.toNat]
def yco(n:Nat)(s:St)(x:AV)(k:AV->Prop):Prop:=
 match n with
 |0=>match x with
  | .c (.u a)=>k (.c (.i a))
  | .c (.i a)=>k (.c (.i a))
  | .c (.q a)=>a<=9223372036854775807/\k (.c (.i a))
  |_=>False
 |1=>match x with
  | .c (.u a)=>k (.c (.u a))
  | .c (.i a)=>k (.c (.u (a%256).toNat))
  |_=>False
 |2=>match dI s 1 x with
  |some rows=>∃l:List UInt8,rows=l.map yBD/\k (.c (.s ⟨l.toArray⟩))
  |none=>False
 |3=>match x with
  | .c (.i a)=>0<=a/\k (.c (.q a.toNat))
  |_=>False
 |_=>False
def kF(P:Program)(d:Option Nat)(op:IOp)(s:St)(K:St->Prop):Prop:=
 match op with
 | .mv x=>K (s.put d (s.ev x))
 | .pick c a b=>ydP (s.ev c) (s.ev a) (s.ev b) λv=>K (s.put d v)
 | .bin op x y=>yvc op (s.ev x) (s.ev y) λv=>K (s.put d v)
 | .beq n x y=>yr8 n (s.ev x) (s.ev y) λv=>K (s.put d v)
 | .isn x=>yxF (s.ev x) λv=>K (s.put d v)
 | .not x=>notP (s.ev x) λv=>K (s.put d v)
 | .neg x=>yyb (s.ev x) λv=>K (s.put d v)
 | .idx k x i=>ymX k s (s.ev x) (s.ev i) λv=>K (s.put d v)
 | .ida k n x i=>yve k n (s.ev x) (s.ev i) λv=>K (s.put d v)
 | .fld off x=>yny off s (s.ev x) λv=>K (s.put d v)
 | .ld1 x=>ylI s (s.ev x) λv=>K (s.put d v)
 | .ldn n x=>ylz n s (s.ev x) λv=>K (s.put d v)
 | .st1 x v=>ylB s (s.ev x) (s.ev v) λs'=>K (s'.put d .und)
 | .stn n x v=>ynn n s (s.ev x) (s.ev v) λs'=>K (s'.put d .und)
 | .box n x=>yIq n s d (s.ev x) K
 | .alloc zs=>newP s d (.box zs) (λd=>.box d 0) K
 | .alloca k n z=>newP s d (.row k (List.replicate n z)) (λd=>.row d k 0 0) K
 | .mks k b z l c=>yvA k b z s d (s.ev l) (s.ev c) K
 | .bsl k xs=>yru k (xs.map s.ev) s d K
 | .bld zs ps=>yd6 s ps zs λl=>K (s.put d (.agg l))
 | .slc k x lo hi mx=>yhr k (s.ev x) (lo.map s.ev) (hi.map s.ev) (mx.map s.ev) λv=>K (s.put d v)
 | .sla k n x h=>ypt k n s (s.ev x) (s.ev h) λv=>K (s.put d v)
 | .len x=>ylv s (s.ev x) λv=>K (s.put d v)
 | .slen x=>yom (s.ev x) λv=>K (s.put d v)
 | .app k b x y=>yjm k b s d (s.ev x) (s.ev y) K
 | .appz k b z x y=>ywS k b z s d (s.ev x) (s.ev y) K
 | .mn xs=>mmP (λx y=>if y<x then y else x) (xs.map s.ev) λv=>K (s.put d v)
 | .mx xs=>mmP (λx y=>if x<y then y else x) (xs.map s.ev) λv=>K (s.put d v)
 | .ext i x=>yrj i (s.ev x) λv=>K (s.put d v)
 | .call f xs=>yat P f (xs.map s.ev) d s K
 | .ixs x i=>yyw (s.ev x) (s.ev i) λv=>K (s.put d v)
 | .callv f xs=>ypK P (s.ev f) (xs.map s.ev) d s K
 | .cp k x y=>cpP k s d (s.ev x) (s.ev y) K
 | .cap x=>yv8 (s.ev x) λv=>K (s.put d v)
 | .nck x=>ypl (s.ev x) λv=>K (s.put d v)
 | .seq n x y=>yvw n (s.ev x) (s.ev y) λv=>K (s.put d v)
 | .eqn n q x y=>yy1 n q (s.ev x) (s.ev y) λv=>K (s.put d v)
 | .mkm=>newP s d (.mp []) (λd=>.mpr d) K
 | .mup x y z=>yID s (s.ev x) (s.ev y) (s.ev z) λs'=>K (s'.put d .und)
 | .mlk x y=>yIS s (s.ev x) (s.ev y) λv=>K (s.put d v)
 | .exb n x y=>exbP n (s.ev x) (s.ev y) λv=>K (s.put d v)
 | .scat x y=>yn9 (s.ev x) (s.ev y) λv=>K (s.put d v)
 | .sls x lo hi=>yuk (s.ev x) (lo.map s.ev) (hi.map s.ev) λv=>K (s.put d v)
 | .bit op x y=>ykN op (s.ev x) (s.ev y) λv=>K (s.put d v)
 | .binu op x y=>ydd op (s.ev x) (s.ev y) λv=>K (s.put d v)
 | .binw op x y=>ylX op (s.ev x) (s.ev y) λv=>K (s.put d v)
 | .cvt n x=>yco n s (s.ev x) λv=>K (s.put d v)
 | .mkf f xs=>(xs.map s.ev).all AV.lH=true/\K (s.put d (.fn f (xs.map s.ev)))
 | .bad=>False
def fZ(x:AV)(want:Bool)(A B:Prop):Prop:=
 match x with
 | .c (.b v)=>(v=want->A)/\(v=(!want)->B)
 | .und=>B
 |_=>False
def wpI(P:Program):List Ins->St->(St->Prop)->Prop
 |[],s,K=>K s
 |i::l,s,K=>
  match i.g with
  |none=>kF P i.d i.op s λs'=>wpI P l s' K
  |some (t,want)=>fZ (s.env t) want (kF P i.d i.op s λs'=>wpI P l s' K) (wpI P l (s.put i.d .und) K)
def yl6(x:AV)(A B:Prop):Prop:=
 match x with
 | .c (.b v)=>(v=true->A)/\(v=false->B)
 |_=>False
def Ex.then(Q Q':Ex->St->Prop):Ex->St->Prop
 | .normal,s=>Q .normal s
 |e,s=>Q' e s
def Ex.inBlock(id:Nat)(Q:Ex->St->Prop):Ex->St->Prop
 | .exit id',s=>if id'=id then Q .normal s else Q (.exit id') s
 |e,s=>Q e s
end Go.Proofs.YtdadkiofenhnbaaGreat
namespace Go.Proofs.YtdadkiofenhnbaaGreat
open Go.RowKit
def yk0:Value->Option AV
 | .int .i64 n=>if -9223372036854775808<=n/\n<=9223372036854775807 then some (.c (.i n))else none
 | .int .u8 n=>if 0<=n/\n<256 then some (.c (.u n.toNat))else none
 | .bool b=>some (.c (.b b))
 | .string s=>if s.size<=maxLen then some (.c (.s s))else none
 | .slice none 0 0=>some (.nil 0)
 | .pointer none=>some .any
 |_=>none
def yob(k:Nat)(v:Value):Option AV:=
 match v with
 | .slice none 0 0=>some (.nil k)
 |v=>yk0 v
def cx:Operand->Option X
 | .tmp t=>if t<jV then some (.t t)else none
 | .const v=>(yk0 v).map .k
 |_=>none
def cxs:List Operand->Option (List X)
 |[]=>some []
 |o::l=>match cx o,cxs l with
  |some x,some xs=>some (x::xs)
  |_,_=>none
def ybc:List Value->List Nat->Option (List AV)
 |[],[]=>some []
 |o::l,k::ks=>match yob k o,ybc l ks with
  |some x,some xs=>some (x::xs)
  |_,_=>none
 |_,_=>none
def yGw(v:Value)(k:Nat):Option C:=
 match v with
 | .int .i64 n=>if n=0 then some (.i 0)else none
 | .int .u8 n=>if n=0 then some (.u 0)else none
 | .bool b=>if b then none else some (.b false)
 | .string s=>if s.size=0 then some (.s s)else none
 | .slice none 0 0=>some (.sl k [])
 |_=>none
def ypL:List Value->List Nat->Option (List C)
 |[],[]=>some []
 |v::l,k::ks=>match yGw v k,ypL l ks with
  |some x,some xs=>some (x::xs)
  |_,_=>none
 |_,_=>none
def yfG:Value->C->Bool
 | .int .i64 n,.i m=>n=0&&m=0
 | .int .u8 n,.u m=>n=0&&m=0
 | .bool b,.b c=>b==c
 | .string s,.s t=>s.size=0&&t.size=0
 | .slice none 0 0,.sl _ rows=>rows.isEmpty
 |_,_=>false
def yfm:List Value->List C->Bool
 |[],[]=>true
 |v::l,c::cs=>yfG v c&&yfm l cs
 |_,_=>false
def leads(P:Program):Nat->TypeId->List Nat
 |0,_=>[]
 |f+1,t=>match P.underlying t with
  |some (.slice e)=>[((P.info? e).map (·.size)).getD 0]
  |some (.struct fs)=>fs.toList.flatMap λx=>leads P f x.type
  |some (.array n e)=>(List.replicate n (leads P f e)).flatten
  |_=>[0]
def ycM(P:Program)(t:TypeId):Option Nat:=(P.info? t).map (·.size)
def cxt(P:Program)(t:TypeId)(o:Operand):Option X:=
 match o with
 | .const (.slice none 0 0)=>match P.underlying t with
  |some (.slice e)=>(ycM P e).map λk=>.k (.nil k)
  |_=>some (.k (.nil 0))
 |o=>cx o
def yBA(P:Program):List TypeId->List Operand->Option (List X)
 |[],[]=>some []
 |t::ts,o::l=>match cxt P t o,yBA P ts l with
  |some x,some xs=>some (x::xs)
  |_,_=>none
 |_,_=>none
def bigC:Operand->Bool
 | .const (.int _ n)=>decide (1099511627776<=n)
 |_=>false
def yLE:BinOp->Bool
 | .add| .mul=>true
 |_=>false
def shC:BinOp->Operand->Option Int
 | .shl,.const (.int _ n)| .shr,.const (.int _ n)=>if 0<=n/\n<64 then some n else none
 |_,_=>none
def isByte(P:Program)(t:TypeId):Bool:=match P.underlying t with|some (.int .u8)=>true|_=>false
def yqm(P:Program)(t:TypeId):Bool:=match P.underlying t with|some (.int .u64)=>true|_=>false
def isInt(P:Program)(t:TypeId):Bool:=match P.underlying t with|some (.int .i64)=>true|_=>false
def yuy(P:Program)(t:TypeId):Option Bool:=
 match P.underlying t with
 |some (.struct _)|some (.array _ _)=>some true
 |some _=>some false
 |none=>none
def yuA:Nat->List (Nat×Operand)->Option (List X)
 |_,[]=>some []
 |n,(i,o)::l=>if i=n then match cx o,yuA (n+1) l with
  |some x,some xs=>some (x::xs)
  |_,_=>none
  else none
def yFt(places:List (Nat×Nat)):List (Nat×Operand)->Option (List (Nat×Nat×X))
 |[]=>some []
 |(i,o)::l=>match places[i]?,cx o,yFt places l with
  |some (off,n),some x,some xs=>some ((off,n,x)::xs)
  |_,_,_=>none
def yHf(P:Program)(u e:TypeId)(i:TypeInfo)(z:Value)(x:X)(n:Operand):Option IOp:=
 match P.underlying u with
 |some (.int _)=>match cx n with
  |some n=>if z.cells.size=i.size/\0<i.size/\0<i.bytes then(ypL z.cells.toList (leads P 8 e)).map λcs=>.appz i.size i.bytes cs x n else none
  |none=>none
 |_=>none
def yHO(fn:Func):Option Nat:=
 if fn.body.isNone&&fn.origin== "" then(if fn.name== "internal/bytealg.CountString" then some 0 else if fn.name== "internal/bytealg.IndexByteString" then some 1 else none)else none
def ytr (P:Program) (c:Call):Option IOp:=
 match c.callee with
 | .builtin .len=>match c.args.toList,c.argTypes.toList with
  |[x],[t]=>match P.underlying t,cx x with
   |some (.slice _),some x=>some (.len x)
   |some .string,some x=>some (.slen x)
   |_,_=>none
  |_,_=>none
 | .builtin .append=>match c.args.toList,c.argTypes.toList with
  | [x,y0],[t,u]=>match P.underlying t,cxt P t x,cxt P t y0 with
   | some (.slice e),some x,some y=>match P.info? e with
    |some i=>match i.zero with
     |some z=>if t=u/\0<i.size/\z.cells.size=i.size/\0<i.bytes then some (.app i.size i.bytes x y)else yHf P u e i z x y0
     |none=>none
    |none=>none
   |_,_,_=>none
  |_,_=>none
 | .builtin .min=>(cxs c.args.toList).map .mn
 | .builtin .max=>(cxs c.args.toList).map .mx
 | .builtin .cap=>match c.args.toList,c.argTypes.toList with
  |[x],[t]=>match P.underlying t,cx x with
   |some (.slice _),some x=>some (.cap x)
   |_,_=>none
  |_,_=>none
 | .builtin .copy=>match c.args.toList,c.argTypes.toList with
  | [x,y],[t,u]=>match P.underlying t,cx x,cx y with
   |some (.slice e),some x,some y=>if t=u then match ycM P e with
    |some (k+1)=>some (.cp (k+1) x y)
    |_=>none
    else none
   |_,_,_=>none
  |_,_=>none
 | .value (.func f)=>match P.funcs[f]?,(match yBA P c.argTypes.toList c.args.toList with|some xs=>some xs|none=>cxs c.args.toList)with
  |some fn,some xs=>if fn.body.isSome&&fn.name != "runtime.NumGoroutine" then some (.call f xs)else match yHO fn,c.args.toList.map cx with
   |some n,[some x,some y]=>some (.exb n x y)
   |_,_=>none
  |_,_=>none
 | .value f=>match cx f,cxs c.args.toList with
  |some f,some xs=>some (.callv f xs)
  |_,_=>none
 |_=>none
def ylq(P:Program):Nat->List Field->Bool
 |_,[]=>true
 |j,f::l=>f.offset==j&&decide (f.name≠ "_")&&(match P.underlying f.type with|some (.int _)=>true|_=>false)&&ylq P (j+1) l
def ypH(P:Program)(t:TypeId)(fs:Array Field):Bool:=ylq P 0 fs.toList&& !P.stoodInHeld t&& !P.eqGuardType P.depth t
def yp2(P:Program)(t:TypeId):Bool:=match P.underlying t with
 |some (.map k e)=>(match P.underlying k,P.underlying e with|some (.int .i64),some (.int .i64)=>true|_,_=>false)&&(match P.info? e with|some i=>(match i.zero with|some (.int .i64 0)=>true|_=>false)|none=>false)
 |_=>false
def ysc (P:Program) (o:Oper):Option IOp:=
 match o.op with
 | .move x| .assign x=>(cxt P o.type x).map .mv
 | .pick c a b=>match cx c,cx a,cx b with
  |some c,some a,some b=>some (.pick c a b)
  |_,_,_=>none
 | .binOp op t x y _=>match P.underlying t with
  | some (.int k)=>match cx x,cx y with
   |some a,some b=>match op with
    | .and| .xor| .shl| .shr=>some (.bit op a b)
    |_=>if k== .u8 then some (.binu op a b)else if(bigC x||bigC y)&&yLE op then some (.binw op a b)else some (.bin op a b)
   |some a,none=>(shC op y).map λn=>.bit op a (.k (.c (.i n)))
   |_,_=>none
  |some .string=>match op,cx x,cx y with
   | .eql,some x,some y=>some (.seq false x y)
   | .neq,some x,some y=>some (.seq true x y)
   | .add,some x,some y=>some (.scat x y)
   |_,_,_=>none
  |some .bool=>match op,cx x,cx y with
   | .eql,some x,some y=>some (.beq false x y)
   | .neq,some x,some y=>some (.beq true x y)
   |_,_,_=>none
  |some (.struct fs)=>if ypH P t fs then(match op,cx x,cx y with
   | .eql,some x,some y=>some (.eqn false fs.size x y)
   | .neq,some x,some y=>some (.eqn true fs.size x y)
   |_,_,_=>none)else none
  |some (.slice _)=>match op,cx x,y with
   | .eql,some x,.const (.slice none 0 0)=>some (.isn x)
   |_,_,_=>none
  |_=>none
 | .makeMap _ none=>some .mkm
 | .mapUpdate t m k v=>if yp2 P t then(match cx m,cx k,cx v with
  |some m,some k,some v=>some (.mup m k v)
  |_,_,_=>none)else none
 | .lookup t m k false=>if yp2 P t then(match cx m,cx k with
  |some m,some k=>some (.mlk m k)
  |_,_=>none)else none
 | .unOp .not _ x=>(cx x).map .not
 | .unOp .neg _ x=>(cx x).map .neg
 | .indexAddr t x i=>match P.underlying t,cx x,cx i with
  |some (.slice e),some x,some i=>(ycM P e).map λk=>.idx k x i
  |some (.array n e),some x,some i=>(ycM P e).map λk=>.ida k n x i
  |_,_,_=>none
 | .fieldAddr t x f=>match P.underlying t,cx x with
  | some (.struct fs),some x=>match fs[f]? with
   |some fl=>match ycM P fl.type with
    |some (_+1)=>some (.fld fl.offset x)
    |_=>none
   |none=>none
  |_,_=>none
 | .load t x=>match yuy P t,cx x,ycM P t with
  |some true,some x,some n=>some (.ldn n x)
  |some false,some x,_=>some (.ld1 x)
  |_,_,_=>none
 | .store t x v=>match yuy P t,cx x,cxt P t v,ycM P t with
  |some true,some x,some v,some n=>some (.stn n x v)
  |some false,some x,some v,some 1=>some (.st1 x v)
  |_,_,_,_=>none
 | .box t x=>match cx x,ycM P t with
  |some x,some n=>some (.box n x)
  |_,_=>none
 | .alloc t=>match P.info? t,P.underlying t with
  | some i,some (.array n e)=>match i.zero,P.info? e with
   | some z,some j=>match j.zero with
    |some y=>match ypL y.cells.toList (leads P 8 e)with
     |some cs=>if yfm z.cells.toList (List.replicate n cs).flatten&&cs.length==j.size then some (.alloca j.size n cs)else none
     |none=>none
    |none=>none
   |_,_=>none
  |some i,some _=>match i.zero with
   |some z=>(ybc z.cells.toList (leads P 8 t)).map .alloc
   |none=>none
  |_,_=>none
 | .makeSlice t l c=>match P.underlying t,cx l,cx c with
  | some (.slice e),some l,some c=>match P.info? e with
   |some i=>match i.zero with
    |some z=>if z.cells.size=i.size/\0<i.size then(ypL z.cells.toList (leads P 8 e)).map λcs=>.mks i.size i.bytes cs l c else none
    |none=>none
   |none=>none
  |_,_,_=>none
 | .buildSlice t n parts=>match P.underlying t,yuA 0 parts.toList with
  | some (.slice e),some xs=>match P.info? e with
   |some i=>match i.zero with
    |some z=>if xs.length=n/\n*i.size<=1000/\0<i.size/\z.cells.size=i.size then some (.bsl i.size xs)else none
    |none=>none
   |none=>none
  |_,_=>none
 | .build t parts=>match P.info? t,P.underlying t with
  | some it,some (.struct fields)=>match it.zero,fields.toList.mapM (λf=>(P.info? f.type).map λi=>(f.offset,i.size))with
   |some z,some places=>match yFt places parts.toList,ybc z.cells.toList (leads P 8 t)with
    |some ps,some zs=>some (.bld zs ps)
    |_,_=>none
   |_,_=>none
  |_,_=>none
 | .slice t x lo hi mx=>match P.underlying t,cx x with
  |some (.slice e),some x=>match ycM P e,lo.map cx,hi.map cx,mx.map cx with
   |some k,none,some (some h),none=>some (.slc k x none (some h) none)
   |some k,some (some l),none,none=>some (.slc k x (some l) none none)
   |some k,some (some l),some (some h),none=>some (.slc k x (some l) (some h) none)
   |some k,none,some (some h),some (some m)=>some (.slc k x none (some h) (some m))
   |_,_,_,_=>none
  |some (.array n e),some x=>match ycM P e,lo.map cx,hi.map cx,mx.map cx with
   |some k,none,some (some h),none=>if n<=maxLen then some (.sla k n x h)else none
   |_,_,_,_=>none
  |some .string,some x=>match lo.map cx,hi.map cx,mx with
   |none,some (some h),none=>some (.sls x none (some h))
   |some (some l),none,none=>some (.sls x (some l) none)
   |some (some l),some (some h),none=>some (.sls x (some l) (some h))
   |_,_,_=>none
  |_,_=>none
 | .nilCheck x=>(cx x).map .nck
 | .convert t u x=>match cx x with
  | some y=>if(isByte P t||isInt P t)&&isInt P u then some (.cvt 0 y)else if(isByte P t||isInt P t)&&isByte P u then some (.cvt 1 y)
   else if yqm P t&&isInt P u then some (.cvt 0 y)else if isInt P t&&yqm P u then some (.cvt 3 y)
   else match P.underlying t,P.underlying u with
    |some (.slice e),some .string=>if isByte P e then some (.cvt 2 y)else none
    |_,_=>none
  |none=>none
 | .makeFunc (.func f) first captured=>match first.toList,cxs captured.toList with
  |[],some xs=>some (.mkf f xs)
  |_,_=>none
 | .makeInterface _ _=>some .bad
 | .panic _=>some .bad
 | .call c=>ytr P c
 | .extract x i=>if i<1048576 then(cx x).map (.ext i)else none
 | .field t x f=>match P.underlying t,cx x with
  |some (.struct fs),some x=>match fs[f]? with
   |some fl=>if yuy P fl.type=some false then some (.ext (1048576+fl.offset) x)else none
   |none=>none
  |_,_=>none
 | .index t x i=>match P.underlying t,cx x,cx i with
  |some .string,some x,some i=>some (.ixs x i)
  |_,_,_=>none
 |_=>none
def ysm(P:Program)(o:Oper):Option IOp:=some ((ysc P o).getD .bad)
def ybf(P:Program)(N:Nat)(ops:Array Oper)(o:Oper):Option Ins:=
 match ysm P o with
 | some op=>match o.dst with
  |none=>match o.guard with
   |none=>some ⟨none,none,op⟩
   |some (j,want)=>match(ops[j]?).bind (·.dst)with|some t=>if t<jV then some ⟨some (t,want),none,op⟩else none|none=>none
  |some d=>if d<N then match o.guard with
   |none=>some ⟨none,some d,op⟩
   |some (j,want)=>match(ops[j]?).bind (·.dst)with|some t=>if t<jV then some ⟨some (t,want),some d,op⟩else none|none=>none
   else none
 |none=>none
def yac(P:Program)(N:Nat)(ops:Array Oper):List Oper->Option (List Ins)
 |[]=>some []
 |o::l=>match ybf P N ops o,yac P N ops l with
  |some i,some is=>some (i::is)
  |_,_=>none
def X.tm:X->List Nat
 | .t n=>[n]
 | .k _=>[]
def X.tmo:Option X->List Nat
 |some x=>x.tm
 |none=>[]
def IOp.reads:IOp->Option (List Nat)
 | .mv x| .not x| .neg x| .fld _ x| .ld1 x| .ldn _ x| .ext _ x=>some x.tm
 | .len (.t n)| .slen (.t n)=>some [n]
 | .nck x| .cvt 0 x| .cvt 1 x| .cvt 3 x=>some x.tm
 | .seq _ x y| .eqn _ _ x y| .scat x y| .bit _ x y| .binu _ x y| .binw _ x y=>some (x.tm++y.tm)
 | .sls x lo hi=>some (x.tm++X.tmo lo++X.tmo hi)
 | .mkf _ xs=>some (xs.flatMap X.tm)
 | .pick c a b=>some (c.tm++a.tm++b.tm)
 | .bin _ x y| .beq _ x y=>some (x.tm++y.tm)
 | .idx _ x i| .ida _ _ x i| .ixs x i=>some (x.tm++i.tm)
 | .slc _ x lo hi m=>some (x.tm++X.tmo lo++X.tmo hi++X.tmo m)
 | .sla _ _ x h=>some (x.tm++h.tm)
 | .mn xs| .mx xs| .call _ xs=>some (xs.flatMap X.tm)
 | .callv f xs=>some (f.tm++xs.flatMap X.tm)
 | .bld _ ps=>some ((ps.map λp=>p.2.2).flatMap X.tm)
 |_=>none
def Ins.reads(i:Ins):Option (List Nat):=
 i.op.reads.map λl=>match i.g with
  |some (t,_)=>t::l
  |none=>l
def yx5(o:Oper)(i:Nat):Bool:=o.after.any λe=>e.on==i&&Region.binds .any e
def Ins.rd(i:Ins):List Nat:=(i.reads).getD []
def indep(x y:Ins):Bool:=
 (match x.d with|some d=>!y.rd.contains d|none=>true)&&(match y.d with|some d=>!x.rd.contains d|none=>true)
def yyQ(o:Oper)(i:Nat)(x y:Ins):Bool:=(x.d.isNone||x.d != y.d)&&(yx5 o i||indep x y)
def yxP(ops:Array Oper)(is:List Ins):Bool:=
 (is.all λi=>i.reads.isSome)&&(List.range ops.size).all λj=>match ops[j]?,is[j]? with
  |some o,some y=>(o.after.all λe=>!Region.binds .any e||decide (e.on<j))&&(List.range j).all λi=>match is[i]? with
   |some x=>yyQ o i x y
   |none=>false
  |_,_=>false
def yzl(md:Region.Mode)(ops:Array Oper)(rk:Nat->Nat):Bool:=
 (List.range ops.size).all λj=>match ops[j]? with
  |some o=>o.after.all λe=>!Region.binds md e||(decide (rk e.on<rk j)&&decide (e.on<ops.size))
  |none=>false
def yLJ(ops:Array Oper):Nat->Nat:=let l:=Region.linearise .gc ops 0;λj=>l.idxOf j
def yt3(ops:Array Oper):Bool:=yzl .text ops (λj=>j)&&yzl .gc ops (yLJ ops)
def yC3(P:Program)(N:Nat)(ops:Array Oper):Option (List Ins):=
 match yac P N ops ops.toList with
 |some is=>if yxP ops is&&(P.follows .mixedOrders|| !Region.departs ops||yt3 ops)then some is else none
 |none=>none
def IOp.xs:IOp->List X
 | .mv x| .not x| .neg x| .fld _ x| .ld1 x| .ldn _ x| .ext _ x| .len x| .slen x| .nck x| .cvt _ x| .isn x| .box _ x| .cap x=>[x]
 | .exb _ x y| .mlk x y| .seq _ x y| .eqn _ _ x y| .scat x y| .bit _ x y| .binu _ x y| .binw _ x y| .bin _ x y| .beq _ x y| .ixs x y| .idx _ x y| .ida _ _ x y| .sla _ _ x y| .st1 x y| .stn _ x y| .app _ _ x y| .cp _ x y| .mks _ _ _ x y| .appz _ _ _ x y=>[x,y]
 | .pick a b c| .mup a b c=>[a,b,c]
 | .sls x lo hi=>x::(lo.toList++hi.toList)
 | .slc _ x lo hi m=>x::(lo.toList++hi.toList++m.toList)
 | .mn xs| .mx xs| .call _ xs| .mkf _ xs| .bsl _ xs=>xs
 | .callv f xs=>f::xs
 | .bld _ ps=>ps.map λp=>p.2.2
 | .alloc _| .alloca _ _ _| .bad| .mkm=>[]
def AV.tJ:AV->List Nat
 | .box i _| .row i _ _ _| .own i _ _| .sub i _ _ _ _ _| .yak i _ _ _ _ _ _| .cut i _ _ _| .mpr i=>[i]
 |_=>[]
def AV.nP:AV->List Nat
 | .agg l| .fn _ l=>l.flatMap AV.tJ
 |x=>x.tJ
def AV.qV:AV->List Nat
 | .agg l| .fn _ l=>l.flatMap AV.nP
 |x=>x.nP
def AV.ids:AV->List Nat
 | .tup l=>l.flatMap AV.qV
 |x=>x.qV
def X.kok:X->Bool
 | .k a=>a.ids.isEmpty
 | .t _=>true
def Ins.rdx(i:Ins):List Nat:=(match i.g with|some (t,_)=>[t]|none=>[])++i.op.xs.flatMap X.tm
def IOp.isMk:IOp->Bool
 | .alloc zs=>zs.all λz=>z.ids.isEmpty
 | .alloca _ _ _| .mks _ _ _ _ _| .bsl _ _=>true
 |_=>false
def IOp.yHH:IOp->Bool
 | .st1 _ _| .stn _ _ _| .app _ _ _ _| .cp _ _ _=>true
 |_=>false
def IOp.yDf:IOp->Bool
 | .bsl _ _=>true
 |_=>false
def IOp.yjK(o:IOp):Bool:=o.yHH||o.yDf
def Ins.slice(i:Ins):List Nat:=match i.op with
 | .app _ _ _ _| .bsl _ _| .mks _ _ _ _ _=>i.d.toList
 |_=>[]
@[reducible] def IOp.qF:IOp->Bool
 | .call _ _| .callv _ _=>true
 |_=>false
def Ins.kind(i:Ins):Option Nat:=
 if i.op.reads.isSome then some 0 else if i.g.isNone&&i.op.isMk&&i.d.isSome then some 1 else if i.g.isNone&&i.op.yHH then some 2 else none
def IOp.turns(cf:List Nat):IOp->Bool
 | .call f _=>cf.contains f
 |_=>false
def Ins.taint(acc:List Nat)(i:Ins):List Nat:=
 if i.op.qF|| !i.slice.isEmpty||(match i.op with| .bld _ _| .mv _| .ext _ _=>(i.op.xs.flatMap X.tm).any acc.contains|_=>false)then acc++i.d.toList else acc
def yHk(cf:List Nat)(is:List Ins)(i:Ins):Option Nat:=
 if i.op.turns cf then(if i.g.isNone then some 2 else some 3)else if i.op.yDf&&i.g.isNone&&i.d.isSome&&(i.op.xs.flatMap X.tm).any (λt=>(if cf.isEmpty then is.flatMap Ins.slice else is.foldl Ins.taint []).contains t)then some 2 else i.kind
def ytN(x y:Ins):Bool:=
 (match x.d with|some d=>!y.rdx.contains d&&y.d != some d|none=>true)&&(match y.d with|some d=>!x.rdx.contains d|none=>true)
def yDk:List Nat->List Oper->List Nat
 |acc,[]=>acc
 |acc,o::l=>yDk (acc++[o.after.toList.foldl (λm e=>if Region.binds .any e then m|||(1<<<e.on)|||(acc.getD e.on 0)else m) 0]) l
def ycq(x y:ySo):Option Bool:=
 if ytN x.i y.i then match x.k,y.k with
  |0,0|0,1|1,0|1,1|1,2=>some true
  |0,2=>if x.i.op.qF then none else some false
  |2,0=>if y.i.op.qF then none else some false
  |2,1=>some false
  |_,_=>none
 else none
def yxt(ops:List Oper):Bool:=(List.range ops.length).all λj=>match ops[j]? with
 |some o=>o.after.all λe=>!Region.binds .any e||decide (e.on<j)
 |none=>false
def yDb(anc:List Nat)(rs:List ySo):Bool:=(List.range rs.length).all λj=>match rs[j]? with
 |some y=>(List.range j).all λi=>match rs[i]? with
  |some x=>((anc.getD j 0).testBit i)||(match ycq x y with|some true=>true|some false=>y.chk.contains i&&x.note|none=>false)
  |none=>false
 |none=>false
def yC6(rs:List ySo):Bool:=(List.range rs.length).all λj=>match rs[j]? with
 |some y=>y.chk.all λi=>decide (i<j)&&(match rs[i]? with|some x=>x.note|none=>false)
 |none=>false
def ySo.ok(r:ySo):Bool:=(r.i.kind==some r.k||(r.k==2&&r.i.g.isNone&&(r.i.op.yDf||r.i.op.qF))||(r.k==3&&r.i.g.isSome&&r.i.op.qF))&&r.i.op.xs.all X.kok
def yGd(f:Nat->Ins->ySo):Nat->List Ins->List ySo
 |_,[]=>[]
 |j,i::l=>⟨(f j i).k,(f j i).note,(f j i).chk,i⟩::yGd f (j+1) l
def mkR(cf anc:List Nat)(is:List Ins):List ySo:=
 let ks:=is.map λi=>(⟨(yHk cf is i).getD 3,false,[],i⟩:ySo)
 let chks:=(List.range ks.length).map λj=>match ks[j]? with
  |some y=>(List.range j).filter λi=>match ks[i]? with
   |some x=>!((anc.getD j 0).testBit i)&&(ycq x y==some false)
   |none=>false
  |none=>[]
 yGd (λj i=>⟨(yHk cf is i).getD 3,chks.any λl=>l.contains j,chks.getD j [],i⟩) 0 is
def yDm(cf:List Nat)(P:Program)(N:Nat)(ops:Array Oper):Option (List ySo):=
 match yac P N ops ops.toList with
 |some is=>
  let anc:=yDk [] ops.toList
  let rs:=mkR cf anc is
  if P.follows .mixedOrders&&rs.all ySo.ok&&yxt ops.toList&&yDb anc rs&&yC6 rs then some rs else none
 |none=>none
def ydT(fl:Option (List Nat))(P:Program)(N:Nat):Code->Option SC
 | .skip=>some .skip
 | .region _ ops draw=>if draw then(match fl with
  |some cf=>match yDm cf P N ops with
   |some l=>some (.rege l)
   |none=>(yC3 P N ops).map .regq
  |none=>match yC3 P N ops with
   |some l=>some (.regq l)
   |none=>(yDm [] P N ops).map .rege)
  else(yac P N ops ops.toList).map .reg
 | .seq a b=>match ydT fl P N a,ydT fl P N b with
  |some a,some b=>some (.seq a b)
  |_,_=>none
 | .cond c a b=>match cx c,ydT fl P N a,ydT fl P N b with
  |some c,some a,some b=>some (.cond c a b)
  |_,_,_=>none
 | .block id c=>(ydT fl P N c).map (.block id)
 | .loop c=>(ydT fl P N c).map .loop
 | .exit id=>some (.exit id)
 | .ret=>some .ret
 |_=>none
end Go.Proofs.YtdadkiofenhnbaaGreat
namespace Go.Proofs.YtdadkiofenhnbaaGreat
open Go.RowKit
def RVs(g:ySm)(s:St)(w:World)(blk:Lay)(v:Value)(x:AV):Prop:=
 RV w (Good g s.yRU blk w) s.yRU blk v x
section basics
variable {g:ySm} {s:St} {a:Act} {w:World} {blk:Lay} {v:Value} {x:AV} {d:Option Nat}
def yKt{t:Nat}(ht:t<jV):g.val a t=a.tmps.getD t undef:=if_pos ht
def Repr.at_(h:Repr g s a w blk){t:Nat}(ht:t<jV):RVs g s w blk (a.tmps.getD t undef) (s.env t):=by
 have:=h.env t;rwa [yKt ht]at this
theorem jG{α:Type}(k:Nat)(v:α)(f:Nat->α)(n:Nat):upd k v f n=if n=k then v else f n:=rfl
theorem yk7{α:Type}(e:α)(k:Nat)(v:α)(l:List (Nat×α))(n:Nat):look e ((k,v)::l) n=if n=k then v else look e l n:=rfl
def yFv(a:Act)(d:Option Nat)(v:Value):(a.put d v).tmps.size=a.tmps.size:=by
 cases d<;>simp[Act.put]
theorem yIL(g:ySm)(a:Act)(d:Nat)(v:Value)(t:Nat)(hd:d<a.tmps.size)(hs:a.tmps.size<=jV):g.val (a.put (some d) v) t=if t=d then v else g.val a t:=by
 unfold ySm.val
 by_cases ht:t<jV
 .rw[if_pos ht,if_pos ht];simp only[Act.put,zan,zbt]
  grind
 .rw[if_neg ht,if_neg ht,if_neg (by omega)]
theorem Repr.put(h:Repr g s a w blk)(hd:∀i,d=some i->i<g.N)(hv:RVs g s w blk v x):Repr g (s.put d x) (a.put d v) w blk:=by
 cases d with
 |none=>exact h
 |some d=>
  refine⟨by rw[yFv];exact h.size,h.small,h.defers,h.below,h.g0,h.f0,h.g0f,λt=>?_,h.yRU,h.new,h.inj,h.apart⟩;rw[yIL g a d v t (by rw[h.size];grind) (by rw[h.size];exact h.small)];simp only[St.put,jG];split
  .exact hv
  .exact h.env t
def RVs.c{c:C}(h:RVs g s w blk v (.c c)):Rd w (Good g s.yRU blk w) v c:=h
def RVs.mk{c:C}(h:Rd w (Good g s.yRU blk w) v c):RVs g s w blk v (.c c):=h
theorem RVs.int{n:Int}(h:RVs g s w blk v (.c (.i n))):v=.int .i64 n/\inI n:=by cases h.c;grind
def RVs.bool{n:Bool}(h:RVs g s w blk v (.c (.b n))):v=.bool n:=by cases h.c;rfl
theorem RVs.byte{n:Nat}(h:RVs g s w blk v (.c (.u n))):v=.int .u8 n/\n<256:=by cases h.c;grind
theorem RVs.wide{n:Nat}(h:RVs g s w blk v (.c (.q n))):v=.int .u64 n/\n<18446744073709551616:=by cases h.c;grind
theorem RVs.str{n:ByteArray}(h:RVs g s w blk v (.c (.s n))):v=.string n/\n.size<=maxLen:=by cases h.c;grind
def RVs.mkI{n:Int}(h:inI n):RVs g s w blk (.int .i64 n) (.c (.i n)):=.mk (.i h)
def RVs.mkB{n:Bool}:RVs g s w blk (.bool n) (.c (.b n)):=.mk .b
theorem RVs.one1(h:RVs g s w blk v x)(hx:x.lH=true):RV1 w (Good g s.yRU blk w) s.yRU blk v x:=by
 cases x<;>first|exact h|grind [AV.lH]
def RVs.of1(h:RV1 w (Good g s.yRU blk w) s.yRU blk v x):RVs g s w blk v x:=by
 cases x<;>first|exact h|exact h.elim
def RVs.of2(h:RV2 w (Good g s.yRU blk w) s.yRU blk v x):RVs g s w blk v x:=by
 cases x<;>first|exact h|exact h.elim
theorem RV1.one{w:World}{G:Nat->Prop}{O:Nat->Obj}{blk:Nat->Option Nat}{v:Value}{x:AV}(h:RV1 w G O blk v x)(hx:x.lH=true):v.oneCell'=true/\v.cells= #[v]:=by
 cases x with
 |any=>grind [AV.lH]
 |und=>grind [AV.lH]
 |c x=>exact⟨Rd.one h,Rd.cells h⟩
 |nil k=>cases h;exact⟨rfl,rfl⟩
 |clip k rows=>obtain⟨a,n,rfl,_⟩:=h;exact⟨rfl,rfl⟩
 |box id off=>obtain⟨b,cells,_,_,rfl⟩:=h;exact⟨rfl,rfl⟩
 |row id k i off=>obtain⟨b,cells,_,_,rfl⟩:=h;exact⟨rfl,rfl⟩
 |elt cs=>obtain⟨ad,rfl,_⟩:=h;exact⟨rfl,rfl⟩
 |own id k n=>
  obtain⟨rows,_,_,h⟩:=h;rcases h with⟨_,_,_,rfl⟩|⟨_,_,_,_,_,rfl,_⟩<;>exact⟨rfl,rfl⟩
 |cut id k lo n=>obtain⟨_,_,_,_,_,rfl,_⟩:=h;exact⟨rfl,rfl⟩
 |agg l=>exact h.elim
 |tup l=>exact h.elim
 |fn f l=>exact h.elim
 |sub id ver i j k n=>grind [AV.lH]
 |yak id ver i j k i' off=>grind [AV.lH]
 |mpr id=>grind [AV.lH]
 |gl b o=>grind [AV.lH]
theorem yBI{v:Value}{x:AV}(h:yk0 v=some x):RVs g s w blk v x:=by
 unfold yk0 at h;split at h
 .split at h
  .cases h;exact .mkI ‹_›
  grind
 .split at h
  .rename_i n hn;cases h;refine .mk ?_;have:(Value.int .u8 n)=.int .u8 (n.toNat:Int):=by grind
   rw[this];exact .u (by omega)
  grind
 .cases h;exact .mkB
 .split at h
  .cases h;exact .mk (.s ‹_›)
  grind
 .cases h;rfl
 .cases h;trivial
 grind
theorem Repr.ev(h:Repr g s a w blk){o:Operand}{x:X}(hx:cx o=some x):RVs g s w blk (a.eval o) (s.ev x):=by
 cases o with
 |tmp t=>
  simp only[cx]at hx;split at hx
  .cases hx;exact h.at_ ‹_›
  grind
 |const v=>
  simp only[cx,zam]at hx;obtain⟨y,hy,rfl⟩:=hx;exact yBI hy
 |global g=>cases hx
 |func f=>cases hx
def Repr.evt{P:Program}(h:Repr g s a w blk){t:TypeId}{o:Operand}{x:X}(hx:cxt P t o=some x):RVs g s w blk (a.eval o) (s.ev x):=by
 unfold cxt at hx;split at hx
 .split at hx
  .simp only[zam]at hx;obtain⟨k,_,rfl⟩:=hx;rfl
  .cases hx;rfl
 .exact h.ev hx
theorem Repr.evs(h:Repr g s a w blk):∀{l:List Operand} {xs:List X},cxs l=some xs->
 (l.map a.eval).length=(xs.map s.ev).length/\∀(j:Nat) (x:AV),(xs.map s.ev)[j]?=some x->∃u,(l.map a.eval)[j]?=some u/\RVs g s w blk u x
 |[],xs,hx=>by cases hx;simp
 | o::l,xs,hx=>by
  simp only[cxs]at hx;split at hx
  .rename_i x xs' h1 h2;cases hx;obtain⟨hl,hr⟩:=h.evs h2;refine⟨by grind,λj y hj=>?_⟩;cases j with
   |zero=>
    simp only[zaC,zbP,Option.some.injEq]at hj;subst hj;exact⟨_,rfl,h.ev h1⟩
   |succ j=>grind
  grind
theorem Repr.evts{P:Program}(h:Repr g s a w blk):∀{ts:List TypeId} {l:List Operand} {xs:List X},yBA P ts l=some xs->
 (l.map a.eval).length=(xs.map s.ev).length/\∀(j:Nat) (x:AV),(xs.map s.ev)[j]?=some x->∃u,(l.map a.eval)[j]?=some u/\RVs g s w blk u x
 |[],[],xs,hx=>by cases hx;simp
 | t::ts,o::l,xs,hx=>by
  simp only[yBA]at hx;split at hx
  .rename_i x xs' h1 h2;cases hx;obtain⟨hl,hr⟩:=h.evts h2;refine⟨by grind,λj y hj=>?_⟩;cases j with
   |zero=>
    simp only[zaC,zbP,Option.some.injEq]at hj;subst hj;exact⟨_,rfl,h.evt h1⟩
   |succ j=>grind
  grind
 |[],_::_,xs,hx=>by grind [yBA]
 |_::_,[],xs,hx=>by grind [yBA]
end basics
def iE(P:Program)(g:ySm)(o:Oper)(a:Act)(w:World)(K:St->Prop):Prop:=
 ∃nx w',(execOp a.eval o).run P w=.ok nx w'/\
  match nx with
  | .value v=>∃s' blk',K s'/\Repr g s' (a.put o.dst v) w' blk'
  | .skip=>∃s' blk',K s'/\Repr g s' (a.put o.dst undef) w' blk'
  | .enter f args=>Calls P f args w' λe w''=>∃v,e=.returned v/\∃s' blk',K s'/\Repr g s' (a.put o.dst v) w'' blk'
  |_=>False
def iE.wp{P:Program}{g:ySm}{o:Oper}{a:Act}{w:World}{K:St->Prop}{next:Act->World->Prop}{Q:Exit->Act->World->Prop}
 (h:iE P g o a w K) (hK:∀s' blk' a' w',K s'->Repr g s' a' w' blk'->next a' w'):o.wp P a w next Q:=by
 obtain⟨nx,w',hr,h⟩:=h;unfold Oper.wp;rw[hr];cases nx with
 |value v=>obtain⟨s',blk',k,r⟩:=h;exact hK _ _ _ _ k r
 |skip=>obtain⟨s',blk',k,r⟩:=h;exact hK _ _ _ _ k r
 |enter f args=>
  refine Calls.mono h ?_
  grind
 |_=>grind
theorem iE.val{P:Program}{g:ySm}{o:Oper}{s:St}{a:Act}{w:World}{blk:Lay}{K:St->Prop}{v:Value}{x:AV}
 (h:Repr g s a w blk) (hd:∀i,o.dst=some i->i<g.N) (hr:(execOp a.eval o).run P w=.ok (.value v) w) (hv:RVs g s w blk v x) (hK:K (s.put o.dst x)):iE P g o a w K:=
 ⟨_,_,hr,_,_,hK,h.put hd hv⟩
def iE.mY{P:Program}{g:ySm}{o:Oper}{s:St}{a:Act}{w:World}{blk:Lay}{K:St->Prop}{v:Value}{x:AV}
 (h:Repr g s a w blk) (hd:∀i,o.dst=some i->i<g.N) (hK:K (s.put o.dst x)) (hr:(execOp a.eval o).run P w=.ok (.value v) w) (hv:RVs g s w blk v x):iE P g o a w K:=
 iE.val h hd hr hv hK
end Go.Proofs.YtdadkiofenhnbaaGreat
namespace Go.Proofs.YtdadkiofenhnbaaGreat
open Go.RowKit
section
variable {P:Program} {g:ySm} {o:Oper} {s:St} {a:Act} {w:World} {blk:Lay} {K:St->Prop}
theorem yJd(h:Repr g s a w blk)(hd:∀i,o.dst=some i->i<g.N){y:Operand}{x:X}(ho:o.op=.move y\/o.op=.assign y)(hx:cxt P o.type y=some x)(hK:K (s.put o.dst (s.ev x))):iE P g o a w K:=by
 refine iE.val h hd (v:=a.eval y) ?_ (h.evt hx) hK;rcases ho with ho|ho<;>simp_all [execOp]
theorem yIi(h:Repr g s a w blk)(hd:∀i,o.dst=some i->i<g.N){c p q:Operand}{xc xp xq:X}(ho:o.op=.pick c p q)(hc:cx c=some xc)(hp:cx p=some xp)(hq:cx q=some xq)
 (hK:ydP (s.ev xc) (s.ev xp) (s.ev xq) λv=>K (s.put o.dst v)):iE P g o a w K:=by
 have ec:=h.ev hc;have ep:=h.ev hp;have eq:=h.ev hq;revert hK ec ep eq;generalize s.ev xc=vc;generalize s.ev xp=vp;generalize s.ev xq=vq;intro hK ec ep eq;unfold ydP at hK;split at hK
 .rename_i t;have e1:=ec.bool;split at hK
  .rename_i x y;have e2:=ep.bool;have e3:=eq.bool;refine iE.val h hd (v:=.bool (cond t x y)) ?_ .mkB hK
   simp_all [execOp,asBool]
  .cases t
   .refine iE.val h hd (v:=a.eval q) ?_ eq (hK.2 rfl)
    simp_all [execOp,asBool]
   .refine iE.val h hd (v:=a.eval p) ?_ ep (hK.1 rfl)
    simp_all [execOp,asBool]
 grind
theorem yK0(h:Repr g s a w blk)(hd:∀i,o.dst=some i->i<g.N){op:BinOp}{t t':TypeId}{p q:Operand}{xp xq:X}(ho:o.op=.binOp op t p q t')(hp:cx p=some xp)(hq:cx q=some xq)
 (hK:yvc op (s.ev xp) (s.ev xq) λv=>K (s.put o.dst v)):iE P g o a w K:=by
 have ep:=h.ev hp;have eq:=h.ev hq;revert hK ep eq;generalize s.ev xp=vp;generalize s.ev xq=vq;intro hK ep eq;unfold yvc at hK;split at hK
 .rename_i m n;obtain⟨e1,i1⟩:=ep.int;obtain⟨e2,i2⟩:=eq.int;unfold yni at hK;split at hK
  .exact iE.val h hd (v:=.int .i64 (m+n)) (by simp_all [ycG,execOp,eqGuard,binOp,Op.intArith]) (.mkI hK.1) hK.2
  .exact iE.val h hd (v:=.int .i64 (m-n)) (by simp_all [ycG,execOp,eqGuard,binOp,Op.intArith]) (.mkI hK.1) hK.2
  .exact iE.val h hd (v:=.int .i64 (m*n)) (by simp_all [ycG,execOp,eqGuard,binOp,Op.intArith]) (.mkI hK.1) hK.2
  .exact iE.val h hd (v:=.int .i64 (m.tdiv n)) (by simp_all [ycG,execOp,eqGuard,binOp,Op.intDiv]) (.mkI hK.2.1) hK.2.2
  .exact iE.val h hd (v:=.int .i64 (m.tmod n)) (by simp_all [execOp,eqGuard,binOp,Op.intDiv]) (.mkI hK.2.1) hK.2.2
  .exact iE.val h hd (v:=.bool (decide (m=n))) (by simp[execOp,ho,e1,e2,eqGuard,binOp,Op.intCmp];rfl) .mkB hK
  .exact iE.val h hd (v:=.bool (!decide (m=n))) (by simp[execOp,ho,e1,e2,eqGuard,binOp,Op.intCmp];rfl) .mkB hK
  .exact iE.val h hd (v:=.bool (decide (m<n))) (by simp_all [execOp,eqGuard,binOp,Op.intCmp]) .mkB hK
  .exact iE.val h hd (v:=.bool (decide (m<=n))) (by simp_all [execOp,eqGuard,binOp,Op.intCmp]) .mkB hK
  .exact iE.val h hd (v:=.bool (decide (n<m))) (by simp_all [execOp,eqGuard,binOp,Op.intCmp]) .mkB hK
  .exact iE.val h hd (v:=.bool (decide (n<=m))) (by simp_all [execOp,eqGuard,binOp,Op.intCmp]) .mkB hK
  grind
 grind
def run_equalIn_bool(w:World)(d:Nat){t:TypeId}(ht:P.underlying t=some .bool)(m n:Bool):(Op.equalIn (d+1) t (.bool m) (.bool n)).run P w=.ok (m==n) w:=by
 simp[Op.equalIn,run_underlying ht]
theorem run_eql_bool(w:World){t:TypeId}(ht:P.underlying t=some .bool)(m n:Bool):(binOp .eql t (.bool m) (.bool n)).run P w=.ok (.bool (m==n)) w:=by
 simp_all [run_equalIn_bool,binOp,Op.equal,Op.maxDepth]
theorem run_neq_bool(w:World){t:TypeId}(ht:P.underlying t=some .bool)(m n:Bool):(binOp .neq t (.bool m) (.bool n)).run P w=.ok (.bool (!(m==n))) w:=by
 simp_all [run_equalIn_bool,binOp,Op.equal,Op.maxDepth]
def yhy(w:World)(d:Nat){t e:TypeId}(ht:P.underlying t=some (.slice e))(ad:Option Addr)(n c:Nat):(Op.equalIn (d+1) t (.slice ad n c) (.slice none 0 0)).run P w=.ok ad.isNone w:=by
 cases ad<;>simp[Op.equalIn,run_underlying ht]
theorem run_eql_slice_nil'(w:World){t e:TypeId}(ht:P.underlying t=some (.slice e))(ad:Option Addr)(n c:Nat):(binOp .eql t (.slice ad n c) (.slice none 0 0)).run P w=.ok (.bool ad.isNone) w:=by
 simp_all [yhy,binOp,Op.equal,Op.maxDepth]
theorem ygk(w:World)(op:BinOp)(t:TypeId)(x y:Operand)(m n:Bool):(eqGuard op t x y (.bool m) (.bool n)).run P w=.ok () w:=by
 simp_all [eqGuard]
theorem ynL(w:World)(op:BinOp)(t:TypeId)(x y:Operand)(m m':Option Addr)(n c n' c':Nat):(eqGuard op t x y (.slice m n c) (.slice m' n' c')).run P w=.ok () w:=by
 simp_all [eqGuard]
theorem yFA(h:Repr g s a w blk)(hd:∀i,o.dst=some i->i<g.N){neg:Bool}{t t':TypeId}{p q:Operand}{xp xq:X}(ho:o.op=.binOp (if neg then .neq else .eql) t p q t')(ht:P.underlying t=some .bool)
 (hp:cx p=some xp) (hq:cx q=some xq) (hK:yr8 neg (s.ev xp) (s.ev xq) λv=>K (s.put o.dst v)):iE P g o a w K:=by
 have ep:=h.ev hp;have eq:=h.ev hq;revert hK ep eq;generalize s.ev xp=vp;generalize s.ev xq=vq;intro hK ep eq;unfold yr8 at hK;split at hK
 .rename_i m n;have e1:=ep.bool;have e2:=eq.bool;refine iE.val h hd (v:=.bool (if neg then !decide (m=n)else decide (m=n))) ?_ .mkB hK;cases neg
  .simp only[execOp,ho,e1,e2,ygk,Sem.run_bind,Sem.run_pure,Result.andThen_ok,run_eql_bool w ht,if_false,zbQ];rfl
  .simp only[execOp,ho,e1,e2,ygk,Sem.run_bind,Sem.run_pure,Result.andThen_ok,run_neq_bool w ht,if_true];rfl
 grind
theorem yKM(h:Repr g s a w blk)(hd:∀i,o.dst=some i->i<g.N){t t' e:TypeId}{p:Operand}{xp:X}(ho:o.op=.binOp .eql t p (.const (.slice none 0 0)) t')(ht:P.underlying t=some (.slice e))
 (hp:cx p=some xp) (hK:yxF (s.ev xp) λv=>K (s.put o.dst v)):iE P g o a w K:=by
 have ep:=h.ev hp
 have run:∀ad n c,a.eval p=.slice ad n c->(execOp a.eval o).run P w=.ok (.value (.bool ad.isNone)) w:=by
  intro ad n c e1;have e2:a.eval (.const (.slice none 0 0))=.slice none 0 0:=rfl
  simp_all [ynL,run_eql_slice_nil',execOp]
 revert hK ep run;generalize s.ev xp=vp;generalize a.eval p=v;intro hK ep run;unfold yxF at hK;split at hK
 .rename_i k rows;have hr:=ep.c;cases hr with
  |sl vals h1 h2 h3 h4 h5 h6 h7=>
   rename_i ad len cap;refine iE.val h hd (run _ _ _ rfl) .mkB (hK _ ?_);intro hn
   simp_all
 .cases ep;exact iE.val h hd (run _ _ _ rfl) .mkB hK
 .rename_i id k n;obtain⟨m,_,_,hv⟩:=ep;rcases hv with⟨_,rfl,_,rfl⟩|⟨b,cap,arr,e,_,rfl,_⟩
  .exact iE.val h hd (run _ _ _ rfl) .mkB (hK _ (λ_=>rfl))
  .exact iE.val h hd (run _ _ _ rfl) .mkB (hK _ (λe=>by cases e))
 grind
theorem yKF(h:Repr g s a w blk)(hd:∀i,o.dst=some i->i<g.N){t:TypeId}{p:Operand}{xp:X}(ho:o.op=.unOp .not t p)
 (hp:cx p=some xp) (hK:notP (s.ev xp) λv=>K (s.put o.dst v)):iE P g o a w K:=by
 have ep:=h.ev hp;revert hK ep;generalize s.ev xp=vp;intro hK ep;unfold notP at hK;split at hK
 .rename_i m;have e1:=ep.bool;exact iE.val h hd (v:=.bool !m) (by simp_all [execOp,Op.unary]) .mkB hK
 grind
theorem yMk(h:Repr g s a w blk)(hd:∀i,o.dst=some i->i<g.N){t:TypeId}{p:Operand}{xp:X}(ho:o.op=.unOp .neg t p)
 (hp:cx p=some xp) (hK:yyb (s.ev xp) λv=>K (s.put o.dst v)):iE P g o a w K:=by
 have ep:=h.ev hp;revert hK ep;generalize s.ev xp=vp;intro hK ep;unfold yyb at hK;split at hK
 .rename_i m;obtain⟨e1,i1⟩:=ep.int;exact iE.val h hd (v:=.int .i64 (-m)) (by simp_all [ycG,execOp,Op.unary,Op.intArith]) (.mkI hK.1) hK.2
 grind
def yLD(h:Repr g s a w blk)(hd:∀i,o.dst=some i->i<g.N){i:Nat}{p:Operand}{xp:X}(ho:o.op=.extract p i)(hi:i<1048576)
 (hp:cx p=some xp) (hK:yrj i (s.ev xp) λv=>K (s.put o.dst v)):iE P g o a w K:=by
 have ep:=h.ev hp;revert hK ep;generalize s.ev xp=vp;intro hK ep;unfold yrj at hK;split at hK
 .rename_i l;split at hK
  .rename_i x hx;obtain⟨arr,e,hs,hu⟩:=ep;obtain⟨u,hu,hr⟩:=hu i x hx;exact iE.val h hd (v:=u) (by simp[execOp,ho,e,Instr.extract,hu]) (.of2 hr) hK.2
  .exact hK.elim
 .split at hK
  .exact absurd hK.1 (by omega)
  .exact hK.elim
 .exact hK.elim
theorem yK8(h:Repr g s a w blk)(hd:∀i,o.dst=some i->i<g.N){t:TypeId}{p i:Operand}{xp xi:X}(ho:o.op=.index t p i)(ht:P.underlying t=some .string)
 (hp:cx p=some xp) (hi:cx i=some xi) (hK:yyw (s.ev xp) (s.ev xi) λv=>K (s.put o.dst v)):iE P g o a w K:=by
 have ep:=h.ev hp;have ei:=h.ev hi;revert hK ep ei;generalize s.ev xp=vp;generalize s.ev xi=vi;intro hK ep ei;unfold yyw at hK;split at hK
 .rename_i bs n;obtain⟨e1,_⟩:=ep.str;obtain⟨e2,i2⟩:=ei.int;obtain⟨h0,h1,hK⟩:=hK;have hn:n.toNat<bs.size:=by omega
  have hg:bs[n.toNat]?=some (bs[n.toNat]'hn):=getElem?_pos bs n.toNat hn;rw[hg]at hK;refine iE.val h hd (v:=.int .u8 (bs[n.toNat]'hn).toNat) ?_ (.mk (.u (by have:=(bs[n.toNat]'hn).toNat_lt;omega))) hK
  simp_all [run_underlying,execOp,Instr.index,asIntOf]
 grind
theorem yIG(h:Repr g s a w blk)(hd:∀i,o.dst=some i->i<g.N){t:TypeId}{p:Operand}{xp:X}(ho:o.op=.call {callee:=.builtin .len,args:=#[p],argTypes:=#[t]})(ht:P.underlying t=some .string)
 (hp:cx p=some xp) (hK:yom (s.ev xp) λv=>K (s.put o.dst v)):iE P g o a w K:=by
 have ep:=h.ev hp;revert hK ep;generalize s.ev xp=vp;intro hK ep;unfold yom at hK;split at hK
 .rename_i bs;obtain⟨e1,hs⟩:=ep.str;refine iE.val h hd (v:=.int .i64 bs.size) ?_ (.mkI (by unfold maxLen at hs;constructor<;>omega)) (hK hs);simp[execOp,ho,resolve,invoke,builtin,e1,Builtin.len_,run_underlying ht,goInt]
 grind
theorem yJV(h:Repr g s a w blk)(hd:∀i,o.dst=some i->i<g.N){t e:TypeId}{p:Operand}{xp:X}(ho:o.op=.call {callee:=.builtin .cap,args:=#[p],argTypes:=#[t]})(ht:P.underlying t=some (.slice e))
 (hp:cx p=some xp) (hK:yv8 (s.ev xp) λv=>K (s.put o.dst v)):iE P g o a w K:=by
 have ep:=h.ev hp
 have run:∀ad n c,a.eval p=.slice ad n c->(execOp a.eval o).run P w=.ok (.value (.int .i64 c)) w:=by
  intro ad n c e1;simp[execOp,ho,resolve,invoke,builtin,e1,Builtin.cap_,run_underlying ht,goInt]
 revert hK ep run;generalize s.ev xp=vp;generalize a.eval p=v;intro hK ep run;unfold yv8 at hK;split at hK
 .cases ep;exact iE.val h hd (run _ _ _ rfl) (.mkI (by constructor<;>omega)) hK
 .obtain⟨ad,n,rfl,hr⟩:=ep;cases hr with
  |sl vals h1 h2 h3 h4 h5 h6 h7=>
   subst h1;exact iE.val h hd (run _ _ _ rfl) (.mkI (by unfold maxLen at h3;constructor<;>omega)) (hK h3)
 .cases ep.c with
  |sl vals h1 h2 h3 h4 h5 h6 h7=>
   exact iE.val h hd (run _ _ _ rfl) (.mkI (by unfold maxLen at h3;constructor<;>omega)) (hK _ (by omega) h3)
 .rename_i id k n;obtain⟨m,_,_,hv⟩:=ep;rcases hv with⟨_,rfl,_,rfl⟩|⟨b,cap,arr,e,_,rfl,h1,h2,_⟩
  .exact iE.val h hd (run _ _ _ rfl) (.mkI (by constructor<;>omega)) (hK 0 (Nat.le_refl _) (by omega))
  .exact iE.val h hd (run _ _ _ rfl) (.mkI (by unfold maxLen at h2;constructor<;>omega)) (hK _ h1 h2)
 grind
theorem yL5(h:Repr g s a w blk)(hd:∀i,o.dst=some i->i<g.N){p:Operand}{xp:X}(ho:o.op=.nilCheck p)
 (hp:cx p=some xp) (hK:ypl (s.ev xp) λv=>K (s.put o.dst v)):iE P g o a w K:=by
 have ep:=h.ev hp
 have run:∀ad,a.eval p=.pointer (some ad)->(execOp a.eval o).run P w=.ok (.value (.pointer (some ad))) w:=by
  simp_all [execOp]
 revert hK ep run;generalize s.ev xp=vp;generalize a.eval p=v;intro hK ep run;unfold ypl at hK;split at hK
 .have ep':=ep;obtain⟨b,cells,_,_,rfl⟩:=ep
  grind [iE.val]
 .have ep':=ep;obtain⟨b,m,_,_,rfl⟩:=ep
  grind [iE.val]
 .have ep':=ep;obtain⟨ad,rfl,_⟩:=ep
  grind [iE.val]
 grind
theorem yaM(n:Int):inI (IntKind.i64.wrap n):=by
 grind [IntKind.wrap_i64,inI]
def yCT{a n:Int}(h:inI a):inI (yzh a n):=by
 unfold yzh
 have hp:(1:Int)<=2^(min n.toNat 64):=by
  have:0<(2:Int)^(min n.toNat 64):=Int.pow_pos (by omega);omega
 rw[Int.fdiv_eq_ediv_of_nonneg _ (by omega)];unfold inI at *;generalize(2:Int)^(min n.toNat 64)=q at hp;constructor
 .by_cases h0:a<0
  .have h1:a*q<=a:=by
    have:=Int.mul_le_mul_of_nonpos_left (a:=a) (b:=q) (c:=1) (by omega) hp;omega
   have:a<=a/q:=by
    rw[Int.le_ediv_iff_mul_le (by omega)];omega
   omega
  .have:=zcV (show 0<=a by omega) (show 0<=q by omega);omega
 .by_cases h0:a<0
  .have:=Int.ediv_neg_of_neg_of_pos h0 (show 0<q by omega);omega
  .have:=zcM q (show 0<=a by omega);omega
theorem yqQ(m n:Nat):((m:Int)==(n:Int))=decide (m=n):=by
 grind
theorem yBe(m k:Nat):Int.fdiv (m:Int) (2^k)=((m/2^k:Nat):Int):=by
 grind
def yH1(w:World)(m n:Int):(Op.intBits .and .i64 m n).run P w=.ok (.int .i64 (yG1 m n)) w:=rfl
def yIQ(w:World)(m n:Int):(Op.intBits .xor .i64 m n).run P w=.ok (.int .i64 (yHQ m n)) w:=rfl
theorem yxI(h:Repr g s a w blk)(hd:∀i,o.dst=some i->i<g.N){op:BinOp}{t t':TypeId}{p q:Operand}{xp xq:X}(ho:o.op=.binOp op t p q t')(hp:cx p=some xp)(hq:cx q=some xq)
 (hK:ykN op (s.ev xp) (s.ev xq) λv=>K (s.put o.dst v)):iE P g o a w K:=by
 have ep:=h.ev hp;have eq:=h.ev hq;revert hK ep eq;generalize s.ev xp=vp;generalize s.ev xq=vq;intro hK ep eq;unfold ykN at hK;split at hK
 .rename_i m n;obtain⟨e1,i1⟩:=ep.int;obtain⟨e2,i2⟩:=eq.int;split at hK
  .exact iE.val h hd (v:=.int .i64 (yG1 m n)) (by simp_all [yH1,execOp,eqGuard,binOp]) (.mkI (yaM _)) hK
  .exact iE.val h hd (v:=.int .i64 (yHQ m n)) (by simp_all [yIQ,execOp,eqGuard,binOp]) (.mkI (yaM _)) hK
  .exact iE.val h hd (v:=.int .i64 (yy4 m n)) (by simp[execOp,ho,e1,e2,eqGuard,binOp,Op.shift,yy4,IntKind.bits,zdD.2 hK.1]) (.mkI (yaM _)) hK.2
  .refine iE.val h hd (v:=.int .i64 (yzh m n)) (by simp[execOp,ho,e1,e2,eqGuard,binOp,Op.shift,yzh,IntKind.bits,zdD.2 hK.1]) (.mkI (yCT i1)) hK.2
  grind
 .rename_i m n;obtain⟨e1,i1⟩:=ep.wide;obtain⟨e2,i2⟩:=eq.int;split at hK
  .refine iE.val h hd (v:=.int .u64 ((m/2^(min n.toNat 64):Nat):Int)) ?_ (.mk (.q (zdY (Nat.div_le_self _ _) i1))) hK.2;simp[execOp,ho,e1,e2,eqGuard,binOp,Op.shift,IntKind.bits,zdD.2 hK.1,yBe]
  grind
 grind
theorem yIU(h:Repr g s a w blk)(hd:∀i,o.dst=some i->i<g.N){op:BinOp}{t t':TypeId}{p q:Operand}{xp:X}{n:Int}(ho:o.op=.binOp op t p q t')(hp:cx p=some xp)(hq:shC op q=some n)
 (hK:ykN op (s.ev xp) (.c (.i n)) λv=>K (s.put o.dst v)):iE P g o a w K:=by
 have ep:=h.ev hp
 obtain⟨k,rfl,hop⟩:∃k,q=.const (.int k n)/\(op=.shl\/op=.shr):=by
  unfold shC at hq
  grind
 have e2:a.eval (.const (.int k n))=.int k n:=rfl;revert hK ep;generalize s.ev xp=vp;intro hK ep;unfold ykN at hK;split at hK
 .rename_i m n' hh;cases hh;obtain⟨e1,i1⟩:=ep.int;rcases hop with rfl|rfl
  .simp only at hK;exact iE.val h hd (v:=.int .i64 (yy4 m n)) (by simp[execOp,ho,e1,e2,eqGuard,binOp,Op.shift,yy4,IntKind.bits,zdD.2 hK.1]) (.mkI (yaM _)) hK.2
  .simp only at hK;refine iE.val h hd (v:=.int .i64 (yzh m n)) (by simp[execOp,ho,e1,e2,eqGuard,binOp,Op.shift,yzh,IntKind.bits,zdD.2 hK.1]) (.mkI (yCT i1)) hK.2
 .rename_i m n' hh;cases hh;obtain⟨e1,i1⟩:=ep.wide;rcases hop with rfl|rfl
  .grind
  .simp only at hK;refine iE.val h hd (v:=.int .u64 ((m/2^(min n.toNat 64):Nat):Int)) ?_ (.mk (.q (zdY (Nat.div_le_self _ _) i1))) hK.2;simp[execOp,ho,e1,e2,eqGuard,binOp,Op.shift,IntKind.bits,zdD.2 hK.1,yBe]
 grind
theorem yII(h:Repr g s a w blk)(hd:∀i,o.dst=some i->i<g.N){op:BinOp}{t t':TypeId}{p q:Operand}{xp xq:X}(ho:o.op=.binOp op t p q t')(hp:cx p=some xp)(hq:cx q=some xq)
 (hK:ylX op (s.ev xp) (s.ev xq) λv=>K (s.put o.dst v)):iE P g o a w K:=by
 have ep:=h.ev hp;have eq:=h.ev hq;revert hK ep eq;generalize s.ev xp=vp;generalize s.ev xq=vq;intro hK ep eq;unfold ylX at hK;split at hK
 .rename_i m n;obtain⟨e1,i1⟩:=ep.int;obtain⟨e2,i2⟩:=eq.int;split at hK
  .exact iE.val h hd (v:=.int .i64 (IntKind.i64.wrap (m+n))) (by simp_all [execOp,eqGuard,binOp,Op.intArith]) (.mkI (yaM _)) hK
  .exact iE.val h hd (v:=.int .i64 (IntKind.i64.wrap (m*n))) (by simp_all [execOp,eqGuard,binOp,Op.intArith]) (.mkI (yaM _)) hK
  grind
 grind
theorem wrap_u8(n:Int):IntKind.u8.wrap n=n%256:=IntKind.wrap_u8 n
theorem yIk(h:Repr g s a w blk)(hd:∀i,o.dst=some i->i<g.N){op:BinOp}{t t':TypeId}{p q:Operand}{xp xq:X}(ho:o.op=.binOp op t p q t')(hp:cx p=some xp)(hq:cx q=some xq)
 (hK:ydd op (s.ev xp) (s.ev xq) λv=>K (s.put o.dst v)):iE P g o a w K:=by
 have ep:=h.ev hp;have eq:=h.ev hq;revert hK ep eq;generalize s.ev xp=vp;generalize s.ev xq=vq;intro hK ep eq;unfold ydd at hK;split at hK
 .rename_i m n;obtain⟨e1,i1⟩:=ep.byte;obtain⟨e2,i2⟩:=eq.byte;split at hK
  .refine iE.val h hd (v:=.int .u8 (((m+n)%256:Nat):Int)) ?_ (.mk (.u (by omega))) hK
   simp_all [wrap_u8,execOp,eqGuard,binOp,Op.intArith]
  .refine iE.val h hd (v:=.int .u8 (((m+256-n)%256:Nat):Int)) ?_ (.mk (.u (by omega))) hK;have:IntKind.u8.wrap ((m:Int)-n)=(((m+256-n)%256:Nat):Int):=by grind [wrap_u8]
   simp_all [execOp,eqGuard,binOp,Op.intArith]
  .exact iE.val h hd (v:=.bool (decide (m=n))) (by simp_all [yqQ,execOp,eqGuard,binOp,Op.intCmp]) .mkB hK
  .exact iE.val h hd (v:=.bool (!decide (m=n))) (by simp_all [yqQ,execOp,eqGuard,binOp,Op.intCmp,bne]) .mkB hK
  .exact iE.val h hd (v:=.bool (decide (m<n))) (by simp_all [execOp,eqGuard,binOp,Op.intCmp]) .mkB hK
  .exact iE.val h hd (v:=.bool (decide (m<=n))) (by simp_all [execOp,eqGuard,binOp,Op.intCmp]) .mkB hK
  .exact iE.val h hd (v:=.bool (decide (n<m))) (by simp_all [execOp,eqGuard,binOp,Op.intCmp]) .mkB hK
  .exact iE.val h hd (v:=.bool (decide (n<=m))) (by simp_all [execOp,eqGuard,binOp,Op.intCmp]) .mkB hK
  grind
 grind
theorem yzk(op:BinOp)(t:TypeId)(x y:ByteArray)(h:op=.add\/op=.eql\/op=.neq)(w:World)(ht:P.underlying t=some .string)(hs:x.size+y.size<=maxLen):
 (binOp op t (.string x) (.string y)).run P w=.ok (match op with| .add=>.string (x++y)| .eql=>.bool (x.toList==y.toList)|_=>.bool !(x.toList==y.toList)) w:=by
 have hb:¬((x.size+y.size:Nat):Int)>IntKind.i64.max:=by
  have:IntKind.i64.max=9223372036854775807:=rfl
  grind [maxLen]
 have hb2:(x.size:Int)+y.size<=IntKind.i64.max:=by
  omega
 rcases h with rfl|rfl|rfl<;>simp_all [binOp,Op.stringOp]
theorem yaF(w:World)(op:BinOp)(t:TypeId)(x y:Operand)(m n:ByteArray):(eqGuard op t x y (.string m) (.string n)).run P w=.ok () w:=by
 simp_all [eqGuard]
theorem bytes_beq(x y:ByteArray):(x.toList==y.toList)=decide (x=y):=by
 grind [ByteArray.toList_eq,ByteArray.ext,Array.toList_inj]
theorem seq_ok(h:Repr g s a w blk)(hd:∀i,o.dst=some i->i<g.N){neg:Bool}{t t':TypeId}{p q:Operand}{xp xq:X}(ho:o.op=.binOp (if neg then .neq else .eql) t p q t')(ht:P.underlying t=some .string)
 (hp:cx p=some xp) (hq:cx q=some xq) (hK:yvw neg (s.ev xp) (s.ev xq) λv=>K (s.put o.dst v)):iE P g o a w K:=by
 have ep:=h.ev hp;have eq:=h.ev hq;revert hK ep eq;generalize s.ev xp=vp;generalize s.ev xq=vq;intro hK ep eq;unfold yvw at hK;split at hK
 .rename_i m n;obtain⟨e1,i1⟩:=ep.str;obtain⟨e2,i2⟩:=eq.str;refine iE.val h hd (v:=.bool (if neg then !decide (m=n)else decide (m=n))) ?_ .mkB hK;cases neg
  .simp_all [yaF,bytes_beq,execOp,binOp,Op.stringOp]
  simp_all [yaF,bytes_beq,execOp,binOp,Op.stringOp]
 grind
theorem yuZ:∀{l:List AV} {m:List Int},intsOf l=some m->m.length=l.length/\∀(j:Nat) (n:Int),m[j]?=some n->l[j]?=some (.c (.i n))
 |[],m,h=>by cases h;simp
 | x::l,m,h=>by
  cases x with
  | c y=>
   cases y with
   |i a=>
    simp only[intsOf,zam]at h;obtain⟨m',h1,rfl⟩:=h;obtain⟨e1,e2⟩:=yuZ h1
    grind
   |_=>cases h
  |_=>cases h
theorem ye0(w:World)(d:Nat){m n:List Int}{xs ys:Array Value}(hx:∀(j:Nat) (a:Int),m[j]?=some a->xs[j]?=some (.int .i64 a))(hy:∀(j:Nat) (a:Int),n[j]?=some a->ys[j]?=some (.int .i64 a)):
 ∀(fs:List Field) (j:Nat),ylq P j fs=true->m.length=j+fs.length->n.length=j+fs.length->(Op.eqFields (d+1) xs ys fs).run P w=.ok (decide (m.drop j=n.drop j)) w
 |[],j,_,h1,h2=>by
  simp_all [zcy,Op.eqFields]
 | f::fs,j,h,h1,h2=>by
  simp only[ylq,zad,beq_iff_eq,decide_eq_true_eq]at h;obtain⟨⟨⟨e1,e2⟩,e3⟩,e4⟩:=h;simp only[zar]at h1 h2;have ih:=ye0 w d hx hy fs (j+1) e4 (by omega) (by omega);have l1:j<m.length:=by omega
  have l2:j<n.length:=by omega
  rw[zaF l1,zaF l2];have v1:=hx j _ (zab l1);have v2:=hy j _ (zab l2);generalize m[j]=a at *;generalize n[j]=b at *
  have hu:∃k,P.underlying f.type=some (.int k):=by
   grind
  obtain⟨k,hu⟩:=hu
  have p1:∀v (zs:Array Value),zs[j]?=some v->(part f.type zs f.offset).run P w=.ok v w:=by
   simp_all [run_underlying,part,isAgg]
  simp only[Op.eqFields,ne_eq,e2,not_false_eq_true,if_true,Sem.run_bind,p1 _ _ v1,p1 _ _ v2,Result.andThen_ok,run_equalIn_int w d f.type .i64 k a b hu,Sem.run_ite]
  by_cases e:a=b<;>simp_all
def RV.ints{w:World}{G:Nat->Prop}{O:Nat->Obj}{blk:Nat->Option Nat}{v:Value}{l:List AV}{m:List Int}(h:RV w G O blk v (.agg l))(hm:intsOf l=some m):∃xs:Array Value,v=.agg xs/\∀(j:Nat) (a:Int),m[j]?=some a->xs[j]?=some (.int .i64 a):=by
 obtain⟨arr,e,_,hl⟩:=h;refine⟨arr,e,λj a hj=>?_⟩;obtain⟨u,hu,hr⟩:=hl j _ ((yuZ hm).2 j a hj);rw[hu];have hr:Rd w G u (.i a):=hr;cases hr;rfl
theorem yGV(h:Repr g s a w blk)(hd:∀i,o.dst=some i->i<g.N){neg:Bool}{t t':TypeId}{fs:Array Field}{p q:Operand}{xp xq:X}(ho:o.op=.binOp (if neg then .neq else .eql) t p q t')(ht:P.underlying t=some (.struct fs))(hst:ypH P t fs=true)
 (hp:cx p=some xp) (hq:cx q=some xq) (hK:yy1 neg fs.size (s.ev xp) (s.ev xq) λv=>K (s.put o.dst v)):iE P g o a w K:=by
 have ep:=h.ev hp;have eq:=h.ev hq;revert hK ep eq;generalize s.ev xp=vp;generalize s.ev xq=vq;intro hK ep eq;unfold yy1 at hK;split at hK
 .rename_i l1 l2;split at hK
  .rename_i m n hm hn;obtain⟨k1,k2,hK⟩:=hK;obtain⟨xs,e1,v1⟩:=ep.ints hm;obtain⟨ys,e2,v2⟩:=eq.ints hn;unfold ypH at hst;simp only[zad,zbb]at hst;have hf:P.fieldsOf t=fs:=by grind [Program.fieldsOf]
   have key:(Op.equalIn 10000 t (.agg xs) (.agg ys)).run P w=.ok (decide (m=n)) w:=by
    rw[show(10000:Nat)=9998+1+1 from rfl,run_equalIn_struct w (9998+1) t xs ys (by grind) hst.1.2,hf,ye0 w 9998 v1 v2 fs.toList 0 hst.1.1 (by grind) (by grind)];simp
   refine iE.val h hd (v:=.bool (if neg then !decide (m=n)else decide (m=n))) ?_ .mkB hK;cases neg
   .simp_all [run_eqGuard_agg,run_eql_struct,execOp]
   simp_all [run_eqGuard_agg,run_neq_struct,execOp]
  grind
 grind
theorem yIX(h:Repr g s a w blk)(hd:∀i,o.dst=some i->i<g.N){t t':TypeId}{p q:Operand}{xp xq:X}(ho:o.op=.binOp .add t p q t')(ht:P.underlying t=some .string)
 (hp:cx p=some xp) (hq:cx q=some xq) (hK:yn9 (s.ev xp) (s.ev xq) λv=>K (s.put o.dst v)):iE P g o a w K:=by
 have ep:=h.ev hp;have eq:=h.ev hq;revert hK ep eq;generalize s.ev xp=vp;generalize s.ev xq=vq;intro hK ep eq;unfold yn9 at hK;split at hK
 .rename_i m n;obtain⟨e1,i1⟩:=ep.str;obtain⟨e2,i2⟩:=eq.str;obtain⟨hs,hK⟩:=hK;have:=yzk (P:=P) .add t m n (.inl rfl) w ht hs;refine iE.val h hd (v:=.string (m++n)) ?_ (.mk (.s (by grind))) hK
  grind [yaF,Sem.run_bind,Sem.run_pure,Result.andThen_ok,execOp]
 grind
theorem yKT(h:Repr g s a w blk)(hd:∀i,o.dst=some i->i<g.N){f:Nat}{first captured:Array Operand}{xs:List X}(ho:o.op=.makeFunc (.func f) first captured)(hf:first.toList=[])
 (hx:cxs captured.toList=some xs) (hone:(xs.map s.ev).all AV.lH=true) (hK:K (s.put o.dst (.fn f (xs.map s.ev)))):iE P g o a w K:=by
 obtain⟨hl,hg⟩:=h.evs hx;have e0:first= #[]:=by grind
 refine iE.mY h hd hK (v:=.func (.func f) #[] (captured.map a.eval)) (by simp_all [execOp,Instr.makeFunc]) ⟨captured.map a.eval,rfl,by grind,λj x hj=>?_⟩;obtain⟨u,hu,hr⟩:=hg j x hj;exact⟨u,by grind,hr.one1 (zaf.1 hone x (zac hj))⟩
end
end Go.Proofs.YtdadkiofenhnbaaGreat
namespace Go.Proofs.YtdadkiofenhnbaaGreat
open Go.RowKit
section
variable {P:Program} {g:ySm} {o:Oper} {s:St} {a:Act} {w:World} {blk:Lay} {K:St->Prop}
theorem yaT{t:TypeId}{k:Nat}(h:ycM P t=some k):∃i,P.info? t=some i/\i.size=k:=by
 grind [Option.map_eq_some_iff,ycM]
def pK{t:TypeId}{i:TypeInfo}(h:P.info? t=some i)(w:World):(sizeOf t).run P w=.ok i.size w:=by
 simp[sizeOf,typeInfo,h]
def yHN{t e:TypeId}{i:TypeInfo}(ht:P.underlying t=some (.slice e))(hi:P.info? e=some i){n:Int}{len cap:Nat}(h0:0<=n)(h1:n<len)(ad:Addr)(w:World):
 (Instr.indexAt t (.slice (some ad) len cap) (.int .i64 n)).run P w=.ok (.pointer (some (ad.add (n.toNat*i.size)))) w:=by
 simp[Instr.indexAt,asIntOf,run_underlying ht,pK hi,h0,h1]
def yHY{t e:TypeId}{i:TypeInfo}{m:Nat}(ht:P.underlying t=some (.array m e))(hi:P.info? e=some i){n:Int}(h0:0<=n)(h1:n<m)(ad:Addr)(w:World):
 (Instr.indexAt t (.pointer (some ad)) (.int .i64 n)).run P w=.ok (.pointer (some (ad.add (n.toNat*i.size)))) w:=by
 simp[Instr.indexAt,asIntOf,run_underlying ht,pK hi,h0,h1,Instr.sureAddr]
theorem qP{α:Type}{l:List α}{n:Nat}{d:α}(h:n<l.length):l[n]?=some (l.getD n d):=by
 grind
theorem yGb{G:Nat->Prop}{u:Value}{c:C}{F:Nat->Prop}{k m:Nat}(h:OT w G u c F)(hc:c.sz=some (k,m))(hm:0<m):∃b cap,u=.slice (some ⟨b,0,none⟩) m cap/\F b:=by
 cases h with
 |sh h=>cases h<;>grind [C.sz]
 |jk=>grind [C.sz]
 |ow0=>grind [C.sz]
 |ot0=>grind [C.sz]
 |ow vals h1 h2 h3 h4 h5 h6 h7=>simp_all [C.sz]
 |ot vals Fs h1 h2 h3 h4 h5 h6 h7=>simp[C.sz]at hc;obtain⟨_,rfl⟩:=hc;subst h2;grind
 |bx=>grind [C.sz]
theorem yEO{G:Nat->Prop}{u:Value}{c:C}{F:Nat->Prop}{k m:Nat}(h:OT w G u c F)(hc:c.sz=some (k,m)):∃A cap,u=.slice A m cap/\m<=cap/\m<=maxLen:=by
 cases h with
 |sh h=>cases h<;>grind [C.sz]
 |jk=>grind [C.sz]
 |ow0=>simp[C.sz]at hc;obtain⟨_,rfl⟩:=hc;simp
 |ot0=>simp[C.sz]at hc;obtain⟨_,rfl⟩:=hc;simp
 |ow vals h1 h2 h3 h4 h5 h6 h7=>simp[C.sz]at hc;obtain⟨_,rfl⟩:=hc;subst h2;grind
 |ot vals Fs h1 h2 h3 h4 h5 h6 h7=>simp[C.sz]at hc;obtain⟨_,rfl⟩:=hc;subst h2;grind
 |bx=>grind [C.sz]
theorem Repr.tree(h:Repr g s a w blk){id b k ver:Nat}{rows:List (List C)}(hO:s.ob id=.tr k ver rows)(hb:blk id=some b):
 ∃(arr:Array Value) (e:TypeId),w.heap[b]?=some (.cells arr e (0,0))/\rows.length*k<=arr.size/\(∀r,r∈rows->r.length=k)/\ynm w (Good g s.yRU blk w) arr k rows (blk.sub id) b:=by
 have h0:=h.yRU id;rw[show s.yRU id=_ from hO]at h0;rcases h0 with⟨e1,_⟩|⟨g',arr,e,e1,e2,e3,e4,e5⟩<;>grind
theorem ynm.cell{G:Nat->Prop}{arr:Array Value}{k:Nat}{rows:List (List C)}{S:Nat->Prop}{b:Nat}{e:TypeId}(h:ynm w G arr k rows S b)(hh:w.heap[b]?=some (.cells arr e (0,0))){i j:Nat}{r:List C}{c:C}(hr:rows[i]?=some r)(hc:r[j]?=some c):
 ∃v F,w.cell? ⟨b,i*k+j,none⟩=some v/\arr[i*k+j]?=some v/\OT w G v c F/\(∀x,F x->S x/\x≠b):=by
 obtain⟨vals,Fs,h1,h2,h3,h4⟩:=h
 grind [cell_of]
def Repr.sub(h:Repr g s a w blk){id k0 ver:Nat}{rows:List (List C)}(hO:s.ob id=.tr k0 ver rows){i:Int}{j k n:Nat}{v:Value}(hv:RVs g s w blk v (.sub id ver i j k n))(hn:0<n):
 ∃b len cap F,ywW w (blk id) k0 rows i.toNat j k n (.slice (some ⟨b,0,none⟩) len cap)/\len=n/\v=.slice (some ⟨b,0,none⟩) len cap/\(F:Nat->Prop) b:=by
 obtain⟨k1,ver1,rows1,ho,hle,hs⟩:=hv;have e:s.yRU id=.tr k0 ver rows:=hO;rw[e]at ho;cases ho;have hs:=hs rfl;have hs':=hs;obtain⟨q,r,c,e1,e2,e3,e4,e5⟩:=hs;obtain⟨arr,e',t1,t2,t3,t4⟩:=h.tree hO e1;obtain⟨u,F,c1,c2,c3,c4⟩:=t4.cell t1 e3 e4;rw[e2]at c1;cases c1;obtain⟨b,cap,rfl,hF⟩:=yGb c3 e5 hn;exact⟨b,n,cap,F,hs',rfl,rfl,hF⟩
theorem Repr.sub0(h:Repr g s a w blk){id k0 ver:Nat}{rows:List (List C)}(hO:s.ob id=.tr k0 ver rows){i:Int}{j k n:Nat}{v:Value}(hv:RVs g s w blk v (.sub id ver i j k n)):
 ∃q r c A cap F,blk id=some q/\w.cell? ⟨q,i.toNat*k0+j,none⟩=some v/\rows[i.toNat]?=some r/\r[j]?=some c/\c.sz=some (k,n)/\v=.slice A n cap/\n<=cap/\n<=maxLen/\OT w (Good g s.yRU blk w) v c F/\(∀x,F x->blk.sub id x/\x≠q):=by
 obtain⟨k1,ver1,rows1,ho,hle,hs⟩:=hv;have e:s.yRU id=.tr k0 ver rows:=hO;rw[e]at ho;cases ho;obtain⟨q,r,c,e1,e2,e3,e4,e5⟩:=hs rfl;obtain⟨arr,e',t1,t2,t3,t4⟩:=h.tree hO e1;obtain⟨u,F,c1,c2,c3,c4⟩:=t4.cell t1 e3 e4
 grind [yEO]
theorem yqs(h:Repr g s a w blk){id k0 ver:Nat}{rows:List (List C)}(hO:s.ob id=.tr k0 ver rows){i:Int}{j k n:Nat}{v:Value}(hv:RVs g s w blk v (.sub id ver i j k n)):∃A cap,v=.slice A n cap/\n<=maxLen:=by
 obtain⟨q,r,c,A,cap,F,_,_,_,_,_,h1,_,h2,_⟩:=h.sub0 hO hv
 grind
theorem yMd(h:Repr g s a w blk)(hd:∀i,o.dst=some i->i<g.N){t e:TypeId}{k:Nat}{p q:Operand}{xp xq:X}(ho:o.op=.indexAddr t p q)(ht:P.underlying t=some (.slice e))(hk:ycM P e=some k)
 (hp:cx p=some xp) (hq:cx q=some xq) (hK:ymX k s (s.ev xp) (s.ev xq) λv=>K (s.put o.dst v)):iE P g o a w K:=by
 obtain⟨i,hi,rfl⟩:=yaT hk;have ep:=h.ev hp;have eq:=h.ev hq
 have run:∀ad len cap (n:Int),a.eval p=.slice (some ad) len cap->a.eval q=.int .i64 n->0<=n->n<len->(execOp a.eval o).run P w=.ok (.value (.pointer (some (ad.add (n.toNat*i.size))))) w:=by
  simp_all [yHN,execOp]
 revert hK ep eq run;generalize s.ev xp=vp;generalize s.ev xq=vq;generalize a.eval p=v;generalize a.eval q=u;intro hK ep eq run
 have rd:∀rows n,Rd w (Good g s.yRU blk w) v (.sl i.size rows)->RVs g s w blk u (.c (.i n))->0<=n->n<rows.length->K (s.put o.dst (.elt (rows.getD n.toNat [])))->iE P g o a w K:=by
  intro rows n hr hn h0 h1 hK;obtain⟨rfl,_⟩:=hn.int;cases hr with
  | sl vals e1 e2 e3 e4 e5 e6 e7=>
   rename_i ad len cap;subst e1;have hs:=e5 (by omega);cases ad with
   |none=>grind
   |some ad=>
    have hlt:n.toNat<rows.length:=by omega
    refine iE.mY h hd hK (run ad _ cap n rfl rfl h0 h1) ⟨_,rfl,λj c hj=>?_⟩
    grind [block_add,add_add]
 unfold ymX at hK;split at hK
 .obtain⟨rfl,h0,h1,hK⟩:=hK;exact rd _ _ ep.c eq h0 h1 hK
 .obtain⟨rfl,h0,h1,hK⟩:=hK;obtain⟨_,_,_,hr⟩:=ep
  grind
 .obtain⟨rfl,h0,h1,hK⟩:=hK;obtain⟨rfl,_⟩:=eq.int;obtain⟨m,hO,hn,hv⟩:=ep;rcases hv with⟨_,rfl,_⟩|⟨b,cap,arr,e,hb,rfl,h2,h3,h4,h5⟩
  .omega
  .refine iE.mY h hd hK (run _ _ cap _ rfl rfl h0 h1) ⟨b,m,hO,hb,?_⟩
   grind [add_lit]
 .rename_i id k' lo m n;obtain⟨rfl,h0,h1,hK⟩:=hK;obtain⟨rfl,_⟩:=eq.int;obtain⟨m',A,c,hO,hn,rfl,h2,h3,h4⟩:=ep;obtain⟨b,hb,rfl⟩:=h4 (by omega);refine iE.mY h hd hK (run _ _ c _ rfl rfl h0 h1) ⟨b,m',hO,hb,?_⟩;rw[add_lit,show((lo:Int)+n).toNat=lo+n.toNat by omega,zbB,zcA]
 .rename_i id ver i' j k' m n;split at hK
  .rename_i k0 ver' rows hO';obtain⟨rfl,rfl,h0,h1,hK⟩:=hK;obtain⟨rfl,_⟩:=eq.int;obtain⟨b,len,cap,F,hs,hlen,rfl,_⟩:=h.sub hO' ep (by omega);refine iE.mY h hd hK (run _ len cap _ rfl rfl h0 (by omega)) ⟨k0,ver',rows,hO',Nat.le_refl _,λ_=>⟨b,len,cap,m,hs,?_⟩⟩
   grind [add_lit]
  grind
 grind
theorem yLH(h:Repr g s a w blk)(hd:∀i,o.dst=some i->i<g.N){t e:TypeId}{p:Operand}{xp:X}(ho:o.op=.call {callee:=.builtin .len,args:=#[p],argTypes:=#[t]})(ht:P.underlying t=some (.slice e))
 (hp:cx p=some xp) (hK:ylv s (s.ev xp) λv=>K (s.put o.dst v)):iE P g o a w K:=by
 have ep:=h.ev hp
 have run:∀ad n c,a.eval p=.slice ad n c->(execOp a.eval o).run P w=.ok (.value (.int .i64 n)) w:=by
  intro ad n c e1;simp[execOp,ho,resolve,invoke,builtin,e1,Builtin.len_,run_underlying ht,goInt]
 revert hK ep run;generalize s.ev xp=vp;generalize a.eval p=v;intro hK ep run
 have rd:∀k rows,Rd w (Good g s.yRU blk w) v (.sl k rows)->(rows.length<=maxLen->K (s.put o.dst (.c (.i rows.length))))->iE P g o a w K:=by
  intro k rows hr hK;cases hr with
  |sl vals h1 h2 h3 h4 h5 h6 h7=>
   rename_i ad len cap;subst h1;have hm:rows.length<=maxLen:=by omega
   exact iE.val h hd (run ad _ cap rfl) (.mkI (by unfold maxLen at hm;constructor<;>omega)) (hK hm)
 unfold ylv at hK;split at hK
 .exact rd _ _ ep.c hK
 .obtain⟨_,_,_,hr⟩:=ep
  grind
 .rename_i id k n;obtain⟨rows,_,_,hv⟩:=ep;rcases hv with⟨_,rfl,_,rfl⟩|⟨b,cap,arr,e,_,rfl,h1,h2,_⟩
  .exact iE.val h hd (run _ _ _ rfl) (.mkI (by constructor<;>omega)) (hK (by simp))
  .have hm:n<=maxLen:=by omega
   exact iE.val h hd (run _ _ _ rfl) (.mkI (by unfold maxLen at hm;constructor<;>omega)) (hK hm)
 .rename_i id k lo n;obtain⟨m,A,c,_,_,rfl,h1,h2,_⟩:=ep;have hm:n<=maxLen:=by omega
  exact iE.val h hd (run _ _ _ rfl) (.mkI (by unfold maxLen at hm;constructor<;>omega)) (hK hm)
 .rename_i id ver i j k n;split at hK
  .rename_i k0 ver' rows hO;obtain⟨rfl,hK⟩:=hK;obtain⟨A,cap,rfl,hm⟩:=yqs h hO ep;exact iE.val h hd (run _ _ _ rfl) (.mkI (by unfold maxLen at hm;constructor<;>omega)) (hK hm)
  grind
 .cases ep;exact iE.val h hd (run _ _ _ rfl) (.mkI (by constructor<;>omega)) hK
 grind
theorem yKQ(h:Repr g s a w blk)(hd:∀i,o.dst=some i->i<g.N){t e:TypeId}{k m:Nat}{p q:Operand}{xp xq:X}(ho:o.op=.indexAddr t p q)(ht:P.underlying t=some (.array m e))(hk:ycM P e=some k)
 (hp:cx p=some xp) (hq:cx q=some xq) (hK:yve k m (s.ev xp) (s.ev xq) λv=>K (s.put o.dst v)):iE P g o a w K:=by
 obtain⟨i,hi,rfl⟩:=yaT hk;have ep:=h.ev hp;have eq:=h.ev hq;revert hK ep eq;generalize s.ev xp=vp;generalize s.ev xq=vq;intro hK ep eq;unfold yve at hK;split at hK
 .rename_i n;obtain⟨rfl,rfl,h0,h1,hK⟩:=hK;obtain⟨e2,_⟩:=eq.int;obtain⟨b,m,hO,hb,e1⟩:=ep;refine iE.mY h hd hK (v:=.pointer (some ⟨b,n.toNat*i.size,none⟩)) ?_ ⟨b,m,hO,hb,by simp⟩;simp[execOp,ho,e1,e2,yHY ht hi h0 h1,add_lit]
 grind
theorem yK5(h:Repr g s a w blk)(hd:∀i,o.dst=some i->i<g.N){t:TypeId}{fs:Array Field}{f k:Nat}{fl:Field}{p:Operand}{xp:X}(ho:o.op=.fieldAddr t p f)(ht:P.underlying t=some (.struct fs))
 (hf:fs[f]?=some fl) (hk:ycM P fl.type=some (k+1)) (hp:cx p=some xp) (hK:yny fl.offset s (s.ev xp) λv=>K (s.put o.dst v)):iE P g o a w K:=by
 obtain⟨i,hi,hik⟩:=yaT hk;have ep:=h.ev hp
 have run:∀ad:Addr,a.eval p=.pointer (some ad)->(execOp a.eval o).run P w=.ok (.value (.pointer (some (ad.add fl.offset)))) w:=by
  intro ad e1;simp[execOp,ho,e1,Instr.fieldAt,run_underlying ht,hf,Instr.sureAddr,fieldPlace,pK hi,hik]
 revert hK ep run;generalize s.ev xp=vp;generalize a.eval p=v;intro hK ep run;unfold yny at hK;split at hK
 .obtain⟨b,cells,hO,hb,rfl⟩:=ep;exact iE.mY h hd hK (run _ rfl) ⟨b,cells,hO,hb,by rw[add_lit]⟩
 .obtain⟨b,cells,hO,hb,rfl⟩:=ep;exact iE.mY h hd hK (run _ rfl) ⟨b,cells,hO,hb,by rw[add_lit,zbL]⟩
 .rename_i cs;obtain⟨ad,rfl,hc⟩:=ep;refine iE.mY h hd hK (run _ rfl) ⟨_,rfl,λj c hj=>?_⟩;rw[zbD]at hj;obtain⟨hg,u,hu,hr⟩:=hc _ c hj;exact⟨by grind [block_add],u,by grind [add_add],hr⟩
 .rename_i id ver i' j k' i2 off;split at hK
  .rename_i k0 ver' rows hO;obtain⟨rfl,hK⟩:=hK;obtain⟨k1,ver1,rows1,ho,hle,hs⟩:=ep;have e:s.yRU id=.tr k0 ver' rows:=hO;rw[e]at ho;cases ho;obtain⟨b,len,cap,n,hsub,rfl⟩:=hs rfl;exact iE.mY h hd hK (run _ rfl) ⟨k0,ver',rows,hO,Nat.le_refl _,λ_=>⟨b,len,cap,n,hsub,by grind [add_lit]⟩⟩
  .exact hK.elim
 .exact hK.elim
theorem yYa{t:TypeId}(ht:yuy P t=some false):(isAgg t).run P w=.ok false w:=by
 unfold yuy at ht;unfold isAgg;split at ht
 .cases ht
 .cases ht
 .rename_i d h1 h2 h3;simp only[Sem.run_bind,run_underlying h3,Result.andThen_ok];cases d<;>simp_all
 .cases ht
def ynA{t:TypeId}(ht:yuy P t=some false){ad:Addr}{u:Value}(hu:w.cell? ad=some u):(Instr.loadAt t (.pointer (some ad))).run P w=.ok u w:=by
 simp[Instr.loadAt,Instr.sureAddr,loadVar,yYa ht,hu]
def yYb(h:Repr g s a w blk)(hd:∀i,o.dst=some i->i<g.N){t:TypeId}{f:Nat}{p:Operand}{xp:X}{fs:Array Field}{fl:Field}(ho:o.op=.field t p f)
 (ht:P.underlying t=some (.struct fs)) (hf:fs[f]?=some fl) (hb:yuy P fl.type=some false)
 (hp:cx p=some xp) (hK:yrj (1048576+fl.offset) (s.ev xp) λv=>K (s.put o.dst v)):iE P g o a w K:=by
 have ep:=h.ev hp;revert hK ep;generalize s.ev xp=vp;intro hK ep;unfold yrj at hK;split at hK
 .split at hK
  .exact absurd hK.1 (by omega)
  .exact hK.elim
 .rename_i l;split at hK
  .rename_i x hx;rw[zct]at hx;obtain⟨arr,e,hs,hu⟩:=ep;obtain⟨u,hu,hr⟩:=hu fl.offset x hx;refine iE.val h hd (v:=u) ?_ (.of1 hr) hK.2;simp[execOp,ho,e,Instr.field,run_underlying ht,hf,part,yYa hb,asAgg,hu]
  .exact hK.elim
 .exact hK.elim
theorem yoK{t:TypeId}{n:Nat}(ht:yuy P t=some true)(hn:ycM P t=some n){ad:Addr}{us:List Value}(hl:us.length=n)(hu:∀j u,us[j]?=some u->w.cell? (ad.add j)=some u):
 (Instr.loadAt t (.pointer (some ad))).run P w=.ok (.agg us.toArray) w:=by
 obtain⟨i,hi,hin⟩:=yaT hn
 have h1:(isAgg t).run P w=.ok true w:=by
  unfold yuy at ht;unfold isAgg;split at ht<;>simp_all [run_underlying]
 have h2:=run_loadCells_list (P:=P) w ad us hu
 simp_all [pK,Instr.loadAt,Instr.sureAddr,loadVar]
theorem Repr.box(h:Repr g s a w blk){id b:Nat}{cells:List AV}(hO:s.ob id=.box cells)(hb:blk id=some b):
 ∃(arr:Array Value) (e:TypeId),w.heap[b]?=some (.cells arr e (0,0))/\arr.size=cells.length/\
  ∀(j:Nat) (x:AV),cells[j]?=some x->∃u:Value,arr[j]?=some u/\RV1 w (Good g s.yRU blk w) s.yRU blk u x:=by
 have h0:=h.yRU id;rw[show s.yRU id=_ from hO]at h0;obtain⟨g',arr,e,e1,e2,e3,e4⟩:=h0
 grind
theorem Repr.row(h:Repr g s a w blk){id b k:Nat}{rows:List (List C)}(hO:s.ob id=.row k rows)(hb:blk id=some b):
 ∃(arr:Array Value) (e:TypeId),w.heap[b]?=some (.cells arr e (0,0))/\rows.length*k<=arr.size/\(∀r,r∈rows->r.length=k)/\
  ∀(i:Nat) (r:List C) (j:Nat) (c:C),rows[i]?=some r->r[j]?=some c->∃u:Value,arr[i*k+j]?=some u/\Rd w (Good g s.yRU blk w) u c:=by
 have h0:=h.yRU id;rw[show s.yRU id=_ from hO]at h0;rcases h0 with⟨e1,_⟩|⟨g',arr,e,e1,e2,e3,e4,e5⟩<;>grind
theorem tY{G:Nat->Prop}{v:Value}{c:C}{F:Nat->Prop}(h:OT w G v c F)(hc:c.plain=true):Rd w G v c:=by
 cases h<;>grind [C.plain]
theorem yI2(h:Repr g s a w blk){id k ver q:Nat}{rows:List (List C)}{r:List C}{i:Int}{j:Nat}{c:C}{v:Value}{F:Nat->Prop}(hO:s.ob id=.tr k ver rows)(hq:blk id=some q)(hcell:w.cell? ⟨q,i.toNat*k+j,none⟩=some v)(hr:rows[i.toNat]?=some r)(hc:r[j]?=some c)
 (ho:OT w (Good g s.yRU blk w) v c F):RV1 w (Good g s.yRU blk w) s.yRU blk v (c.av id ver i j):=by
 cases c with
 |ow k' rs=>exact⟨k,ver,rows,hO,Nat.le_refl _,λ_=>⟨q,r,_,hq,hcell,hr,hc,rfl⟩⟩
 |ot k' rs=>exact⟨k,ver,rows,hO,Nat.le_refl _,λ_=>⟨q,r,_,hq,hcell,hr,hc,rfl⟩⟩
 |bx l=>trivial
 |jk=>trivial
 |i n=>exact tY ho rfl
 |b n=>exact tY ho rfl
 |u n=>exact tY ho rfl
 |q n=>exact tY ho rfl
 |s n=>exact tY ho rfl
 |sl k' rs=>exact tY ho rfl
theorem yG9{G:Nat->Prop}{O:Nat->Obj}{blk:Nat->Option Nat}{c:C}{v:Value}{F:Nat->Prop}(ho:OT w G v c F):RV1 w G O blk v c.av2:=by
 cases c with
 |ow k' rs=>trivial
 |ot k' rs=>trivial
 |bx l=>trivial
 |jk=>trivial
 |i n=>exact tY ho rfl
 |b n=>exact tY ho rfl
 |u n=>exact tY ho rfl
 |q n=>exact tY ho rfl
 |s n=>exact tY ho rfl
 |sl k' rs=>exact tY ho rfl
theorem yCU{id ver:Nat}{i:Int}:∀{l:List C} {j0 j:Nat} {x:AV},(avs id ver i j0 l)[j]?=some x->∃c,l[j]?=some c/\x=c.av id ver i (j0+j)
 |[],j0,j,x,h=>by grind [avs]
 | c::l,j0,j,x,h=>by
  cases j with
  |zero=>grind [avs]
  |succ j=>
   simp only[avs,zdG]at h;obtain⟨c',h1,h2⟩:=yCU h
   grind
theorem ytA{id ver:Nat}{i:Int}:∀{l:List C} {j0:Nat},(avs id ver i j0 l).length=l.length
 |[],_=>rfl
 |c::l,j0=>by simp[avs,ytA]
theorem ycF{rows:List (List C)}{i j:Nat}{c:C}(h:cellAt rows i j=some c):∃r,rows[i]?=some r/\r[j]?=some c:=by
 grind [cellAt]
theorem Repr.yak(h:Repr g s a w blk){id k0 ver:Nat}{rows:List (List C)}(hO:s.ob id=.tr k0 ver rows){i i':Int}{j k off:Nat}{v:Value}(hv:RVs g s w blk v (.yak id ver i j k i' off)){c:C}(hc:cellAt rows i.toNat j=some c){k':Nat}{rs:List (List C)}(hcs:c=.ow k' rs\/c=.ot k' rs)(hk:k'=k)(hlt:i'.toNat<rs.length):
 ∃b arr e,v=.pointer (some ⟨b,i'.toNat*k+off,none⟩)/\w.heap[b]?=some (.cells arr e (0,0))/\(∀r,r∈rs->r.length=k)/\∀(i2:Nat) (r:List C) (j2:Nat) (c2:C),rs[i2]?=some r->r[j2]?=some c2->∃u F,arr[i2*k+j2]?=some u/\OT w (Good g s.yRU blk w) u c2 F:=by
 obtain⟨k1,ver1,rows1,ho,hle,hs⟩:=hv;have e:s.yRU id=.tr k0 ver rows:=hO;rw[e]at ho;cases ho;obtain⟨b,len,cap,n,⟨q,r,c',e1,e2,e3,e4,e5⟩,rfl⟩:=hs rfl;obtain⟨r',f1,f2⟩:=ycF hc;rw[e3]at f1;cases f1;rw[e4]at f2;cases f2;obtain⟨arr,e',t1,t2,t3,t4⟩:=h.tree hO e1;obtain⟨u,F,c1,c2,c3,c4⟩:=t4.cell t1 e3 e4;rw[e2]at c1;cases c1;subst hk;rcases hcs with rfl|rfl
 .cases c3 with
  |sh h=>cases h
  |ow0=>grind
  |ow vals h1 h2 h3 h4 h5 h6 h7 h8 h9=>exact⟨b,_,_,rfl,h1,h6,λi2 r j2 c2 hr hc=>⟨_,noF,h8 _ _ hr _ _ hc,.sh (h9 _ _ hr _ _ hc)⟩⟩
 .cases c3 with
  |sh h=>cases h
  |ot0=>grind
  |ot vals Fs h1 h2 h3 h4 h5 h6 h7 h8 h9 h10 h11=>grind
theorem yDg(h:Repr g s a w blk){id k0 ver:Nat}{rows:List (List C)}(hO:s.ob id=.tr k0 ver rows){i i':Int}{j k off:Nat}{b:Nat}(hv:RVs g s w blk (.pointer (some ⟨b,i'.toNat*k+off,none⟩)) (.yak id ver i j k i' off)){k':Nat}{rs:List (List C)}(hc:cellAt rows i.toNat j=some (.ow k' rs))(hk:k'=k)
 {i2 j2:Nat} {r2:List C} {c2:C} (hr2:rs[i2]?=some r2) (hc2:r2[j2]?=some c2) {u:Value} (hu:w.cell? ⟨b,i2*k+j2,none⟩=some u) {x:AV} (hx:x=.c c2):RV1 w (Good g s.yRU blk w) s.yRU blk u (.c c2):=by
 obtain⟨k1,ver1,rows1,ho,hle,hs⟩:=hv;have e:s.yRU id=.tr k0 ver rows:=hO;rw[e]at ho;cases ho;obtain⟨b',len,cap,n,⟨q,r,c',e1,e2,e3,e4,e5⟩,hp⟩:=hs rfl;cases hp;obtain⟨r',f1,f2⟩:=ycF hc;rw[e3]at f1;cases f1;rw[e4]at f2;cases f2;obtain⟨arr,e',t1,t2,t3,t4⟩:=h.tree hO e1;obtain⟨u',F,c1,c2',c3,c4⟩:=t4.cell t1 e3 e4;rw[e2]at c1;cases c1;subst hk;cases c3 with
 |sh h=>cases h
 |ow0=>grind
 |ow vals h1 h2 h3 h4 h5 h6 h7 h8 h9=>
  rw[cell_of w h1,h8 _ _ hr2 _ _ hc2]at hu;cases hu;exact h9 _ _ hr2 _ _ hc2
theorem yK9(h:Repr g s a w blk)(hd:∀i,o.dst=some i->i<g.N){t:TypeId}{p:Operand}{xp:X}(ho:o.op=.load t p)(ht:yuy P t=some false)
 (hp:cx p=some xp) (hK:ylI s (s.ev xp) λv=>K (s.put o.dst v)):iE P g o a w K:=by
 have ep:=h.ev hp
 have run:∀(ad:Addr) u,a.eval p=.pointer (some ad)->w.cell? ad=some u->(execOp a.eval o).run P w=.ok (.value u) w:=by
  simp_all [ynA,execOp]
 revert hK ep run;generalize s.ev xp=vp;generalize a.eval p=v;intro hK ep run;unfold ylI at hK;split at hK
 .rename_i id off;obtain⟨b,cells',hO',hb,rfl⟩:=ep;split at hK
  .rename_i cells hO;split at hK
   .rename_i x hx;obtain⟨arr,e,h1,h2,h3⟩:=h.box hO hb;obtain⟨u,hu,hr⟩:=h3 off x hx;exact iE.val h hd (run _ u rfl (by grind [cell_of])) (.of1 hr) hK
   grind
  grind
 .rename_i id k i off;obtain⟨b,rows',hO',hb,rfl⟩:=ep;split at hK
  .rename_i k' rows hO;obtain⟨rfl,h0,h1,hK⟩:=hK;obtain⟨arr,e,e1,e2,e3,e4⟩:=h.row hO hb;have hr:=qP (d:=[]) h0;have hl:(rows.getD i.toNat []).length=k':=e3 _ (zac hr);obtain⟨u,hu,hru⟩:=e4 _ _ off _ hr (qP (d:=default) (by omega));exact iE.val h hd (run _ u rfl (by grind [cell_of])) (.mk hru) hK
  .rename_i k' ver rows hO;obtain⟨rfl,h0,h1,hK⟩:=hK;obtain⟨arr,e,e1,e2,e3,e4⟩:=h.tree hO hb;have hr:=qP (d:=[]) h0;have hl:(rows.getD i.toNat []).length=k':=e3 _ (zac hr);have hc:=qP (l:=rows.getD i.toNat []) (n:=off) (d:=default) (by omega);obtain⟨u,F,c1,c2,c3,_⟩:=e4.cell e1 hr hc;exact iE.mY h hd hK (run _ u rfl c1) (.of1 (yI2 h hO hb c1 hr hc c3))
  grind
 .rename_i id ver i j k i' off;split at hK
  .rename_i k0 ver' rows hO;obtain⟨rfl,hK⟩:=hK;split at hK
   .rename_i k' rs hc;obtain⟨hk,h0,h1,hK⟩:=hK;obtain⟨b,arr,e,rfl,e1,e2,e3⟩:=h.yak hO ep hc (.inl rfl) hk h0;have hr:=qP (d:=[]) h0;have hl:(rs.getD i'.toNat []).length=k:=e2 _ (zac hr);obtain⟨u,F,hu,hot⟩:=e3 _ _ off _ hr (qP (d:=default) (by omega));refine iE.mY h hd hK (run _ u rfl (by grind [cell_of])) ?_;exact yDg h hO ep hc hk hr (qP (d:=default) (by omega)) (by grind [cell_of]) rfl
   .rename_i k' rs hc;obtain⟨hk,h0,h1,hK⟩:=hK;obtain⟨b,arr,e,rfl,e1,e2,e3⟩:=h.yak hO ep hc (.inr rfl) hk h0;have hr:=qP (d:=[]) h0;have hl:(rs.getD i'.toNat []).length=k:=e2 _ (zac hr);obtain⟨u,F,hu,hot⟩:=e3 _ _ off _ hr (qP (d:=default) (by omega));exact iE.mY h hd hK (run _ u rfl (by grind [cell_of])) (.of1 (yG9 hot))
   grind
  grind
 .obtain⟨ad,rfl,hc⟩:=ep;split at hK
  .obtain⟨hg,u,hu,hr⟩:=hc 0 _ rfl;exact iE.val h hd (run _ u rfl (by grind [Addr.add])) (.mk hr) hK
  grind
 grind
theorem yL0(h:Repr g s a w blk)(hd:∀i,o.dst=some i->i<g.N){t:TypeId}{n:Nat}{p:Operand}{xp:X}(ho:o.op=.load t p)(ht:yuy P t=some true)(hn:ycM P t=some n)
 (hp:cx p=some xp) (hK:ylz n s (s.ev xp) λv=>K (s.put o.dst v)):iE P g o a w K:=by
 have ep:=h.ev hp
 have run:∀(ad:Addr) (us:List Value),a.eval p=.pointer (some ad)->us.length=n->(∀j u,us[j]?=some u->w.cell? (ad.add j)=some u)->(execOp a.eval o).run P w=.ok (.value (.agg us.toArray)) w:=by
  intro ad us e1 e2 e3;simp[execOp,ho,e1,yoK ht hn e2 e3]
 -- the cells,one by one
 have many:∀(ad:Addr) (l:List AV),a.eval p=.pointer (some ad)->l.length=n->(∀j x,l[j]?=some x->∃u,w.cell? (ad.add j)=some u/\RV1 w (Good g s.yRU blk w) s.yRU blk u x)->K (s.put o.dst (.agg l))->iE P g o a w K:=by
  intro ad l e1 e2 e3 hK
  let us:=(List.range n).map λj=>(w.cell? (ad.add j)).getD undef
  have hus:∀j x,l[j]?=some x->∃u,us[j]?=some u/\w.cell? (ad.add j)=some u/\RV1 w (Good g s.yRU blk w) s.yRU blk u x:=by
   grind
  have hlen:us.length=n:=by grind
  refine iE.mY h hd hK (run ad us e1 hlen λj u hu=>?_) ⟨us.toArray,rfl,by grind,λj x hx=>?_⟩
  .have hj:j<n:=by grind
   obtain⟨u',hu',hc,_⟩:=hus j _ (zab (by omega:j<l.length))
   grind
  grind
 revert hK ep many;generalize s.ev xp=vp;generalize a.eval p=v;intro hK ep many;unfold ylz at hK;split at hK
 .rename_i id off;obtain⟨b,cells',hO',hb,rfl⟩:=ep;split at hK
  .rename_i cells hO;obtain⟨hle,hK⟩:=hK;obtain⟨arr,e,h1,h2,h3⟩:=h.box hO hb
   grind [add_lit,cell_of]
  grind
 .rename_i id k i off;obtain⟨b,rows',hO',hb,rfl⟩:=ep;split at hK
  .rename_i k' rows hO;obtain⟨rfl,h0,hle,hK⟩:=hK;obtain⟨arr,e,e1,e2,e3,e4⟩:=h.row hO hb;have hr:=qP (d:=[]) h0;have hl:(rows.getD i.toNat []).length=k':=e3 _ (zac hr);refine many _ _ rfl (by grind) (λj x hx=>?_) hK;rw[zau,zam]at hx;obtain⟨c,hc,rfl⟩:=hx;rw[zbv]at hc;split at hc
   .rw[zbD]at hc;obtain⟨u,hu,hru⟩:=e4 _ _ _ c hr hc;exact⟨u,by grind [add_lit,cell_of],hru⟩
   grind
  .rename_i k' ver rows hO;obtain⟨rfl,h0,hle,hK⟩:=hK;obtain⟨arr,e,e1,e2,e3,e4⟩:=h.tree hO hb;have hr:=qP (d:=[]) h0;have hl:(rows.getD i.toNat []).length=k':=e3 _ (zac hr);refine many _ _ rfl (by grind [ytA]) (λj x hx=>?_) hK;obtain⟨c,hc,rfl⟩:=yCU hx;rw[zbv]at hc;split at hc
   .rw[zbD]at hc;obtain⟨u,F,c1,c2,c3,_⟩:=e4.cell e1 hr hc
    grind [add_lit,yI2]
   grind
  grind
 .rename_i id ver i j k i' off;split at hK
  .rename_i k0 ver' rows hO;obtain⟨rfl,hK⟩:=hK;split at hK
   .rename_i k' rs hc;obtain⟨hk,h0,hle,hK⟩:=hK;obtain⟨b,arr,e,rfl,e1,e2,e3⟩:=h.yak hO ep hc (.inl rfl) hk h0;have hr:=qP (d:=[]) h0;have hl:(rs.getD i'.toNat []).length=k:=e2 _ (zac hr);refine many _ _ rfl (by grind) (λj2 x hx=>?_) hK;rw[zau,zam]at hx;obtain⟨c2,hc2,rfl⟩:=hx;rw[zbv]at hc2;split at hc2
    .rw[zbD]at hc2;obtain⟨u,F,hu,hot⟩:=e3 _ _ _ c2 hr hc2;exact⟨u,by grind [add_lit,cell_of],yDg h hO ep hc hk hr hc2 (by grind [cell_of]) rfl⟩
    grind
   .rename_i k' rs hc;obtain⟨hk,h0,hle,hK⟩:=hK;obtain⟨b,arr,e,rfl,e1,e2,e3⟩:=h.yak hO ep hc (.inr rfl) hk h0
    grind [add_lit,cell_of,yG9]
   grind
  grind
 .rename_i cs;obtain⟨ad,rfl,hc⟩:=ep;obtain⟨hle,hK⟩:=hK;refine many _ _ rfl (by grind) (λj x hx=>?_) hK;rw[zau,zam]at hx;obtain⟨c,hc',rfl⟩:=hx;rw[zbv]at hc';split at hc'
  .obtain⟨_,u,hu,hr⟩:=hc j c hc';exact⟨u,hu,hr⟩
  grind
 grind
end
end Go.Proofs.YtdadkiofenhnbaaGreat
namespace Go.Proofs.YtdadkiofenhnbaaGreat
open Go.RowKit
section
variable {w w':World} {G G':Nat->Prop} {O O':Nat->Obj} {blk blk':Nat->Option Nat} {b:Option Nat} {o:Obj} {S S':Nat->Prop}
theorem jU.keep(K:Keeps w w' G G' O O' blk blk')(hs:∀q,b=some q->o≠.none->w'.heap[q]?=w.heap[q]?)(hS:∀q,S q->o≠.none->w'.heap[q]?=w.heap[q]?)(h:jU w G O blk S b o):jU w' G' O' blk' S b o:=by
 cases o with
 |none=>trivial
 |box cells=>
  obtain⟨q,arr,e,e1,e2,e3,e4⟩:=h;exact⟨q,arr,e,e1,by grind,e3,λj x hx=>let⟨u,hu,hr⟩:=e4 j x hx;⟨u,hu,hr.keep K⟩⟩
 |mp kvs=>obtain⟨q,e1,e2,e3⟩:=h;exact⟨q,e1,by grind,e3⟩
 |row k rows=>
  rcases h with h|⟨q,arr,e,e1,e2,e3,e4,e5⟩
  .exact .inl h
  .exact .inr ⟨q,arr,e,e1,by grind,e3,e4,λi r j c hr hc=>let⟨u,hu,hr⟩:=e5 i r j c hr hc;⟨u,hu,hr.mono K.good K.cell⟩⟩
 |tr k ver rows=>
  rcases h with h|⟨q,arr,e,e1,e2,e3,e4,e5⟩
  .exact .inl h
  .exact .inr ⟨q,arr,e,e1,by grind,e3,e4,e5.mono K.good K.cell (λ_ h=>h) λx hx=>hS x hx (by simp)⟩
end
def ycr(O:Nat->Obj)(id i:Nat):Obj:=if i=id then .none else O i
section
variable {w:World} {G:Nat->Prop} {O:Nat->Obj} {blk:Nat->Option Nat} {v:Value} {x:AV} {id:Nat}
theorem RV1.drop(h:RV1 w G O blk v x)(hf:x.ybe id=true):RV1 w G (ycr O id) blk v x:=by
 cases x with
 |box i off=>
  obtain⟨b,cells,ho,r⟩:=h;have:i≠id:=by grind [AV.ybe]
  exact⟨b,cells,by grind [ycr],r⟩
 |row i k n off=>
  obtain⟨b,cells,ho,r⟩:=h;have:i≠id:=by grind [AV.ybe]
  exact⟨b,cells,by grind [ycr],r⟩
 |own i k n=>
  obtain⟨rows,ho,r⟩:=h;have:i≠id:=by grind [AV.ybe]
  exact⟨rows,by grind [ycr],r⟩
 |mpr i=>
  obtain⟨b,kvs,ho,r⟩:=h;have:i≠id:=by grind [AV.ybe]
  exact⟨b,kvs,by grind [ycr],r⟩
 |cut i k lo n=>
  obtain⟨m,A,c,ho,r⟩:=h;have:i≠id:=by grind [AV.ybe]
  exact⟨m,A,c,by grind [ycr],r⟩
 |sub i ver n j k m=>
  obtain⟨k0,ver',rows,ho,r⟩:=h;have:i≠id:=by grind [AV.ybe]
  exact⟨k0,ver',rows,by grind [ycr],r⟩
 |yak i ver n j k m off=>
  obtain⟨k0,ver',rows,ho,r⟩:=h;have:i≠id:=by grind [AV.ybe]
  exact⟨k0,ver',rows,by grind [ycr],r⟩
 |_=>exact h
theorem RV1.kill(h:RV1 w G O blk v x):RV1 w G (ycr O id) blk v (x.fV id):=by
 unfold AV.fV;split
 .exact h.drop ‹_›
 .trivial
def RV2.drop(h:RV2 w G O blk v x)(hf:x.yCX id=true):RV2 w G (ycr O id) blk v x:=by
 cases x
 case agg l=>
  obtain⟨arr,e,hs,hx⟩:=h;exact⟨arr,e,hs,λj x hj=>let⟨u,hu,hr⟩:=hx j x hj;⟨u,hu,hr.drop (zaf.1 hf x (zac hj))⟩⟩
 case fn f l=>
  obtain⟨arr,e,hs,hx⟩:=h;exact⟨arr,e,hs,λj x hj=>let⟨u,hu,hr⟩:=hx j x hj;⟨u,hu,hr.drop (zaf.1 hf x (zac hj))⟩⟩
 all_goals(simp only[RV2]at h|-;exact RV1.drop h hf)
theorem RV2.kill(h:RV2 w G O blk v x):RV2 w G (ycr O id) blk v (x.kill id):=by
 cases x
 case agg l=>
  obtain⟨arr,e,hs,hx⟩:=h;refine⟨arr,e,by grind,λj x hj=>?_⟩;rw[zau,zam]at hj;obtain⟨y,hy,rfl⟩:=hj;obtain⟨u,hu,hr⟩:=hx j y hy;exact⟨u,hu,hr.kill⟩
 case fn f l=>
  simp only[AV.kill];split
  .rename_i hall;obtain⟨arr,e,hs,hx⟩:=h;exact⟨arr,e,hs,λj x hj=>let⟨u,hu,hr⟩:=hx j x hj;⟨u,hu,hr.drop (zaf.1 hall x (zac hj))⟩⟩
  .trivial
 case tup l=>exact(show False from h).elim
 all_goals
  grind [RV1.kill,RV2,AV.kill,AV.fV]
theorem RV.kill(h:RV w G O blk v x):RV w G (ycr O id) blk v (x.kill id):=by
 cases x
 case tup l=>
  simp only[AV.kill];split
  .rename_i hall;obtain⟨arr,e,hs,hx⟩:=h;refine⟨arr,e,hs,λj x hj=>?_⟩;obtain⟨u,hu,hr⟩:=hx j x hj;exact⟨u,hu,hr.drop (zaf.1 hall x (zac hj))⟩
  .trivial
 case agg l=>exact RV2.kill (id:=id) (x:=.agg l) h
 case fn f l=>
  have:=RV2.kill (id:=id) (x:=.fn f l) h;revert this;simp only[AV.kill];split
  .exactλh=>h
  .intro _;trivial
 all_goals
  grind [RV1.kill,RV,RV2,AV.kill,AV.fV]
theorem jU.kill{S:Nat->Prop}{b:Option Nat}{o:Obj}(h:jU w G O blk S b o):jU w G (ycr O id) blk S b (o.kill id):=by
 cases o with
 |none=>trivial
 |box cells=>
  obtain⟨q,arr,e,e1,e2,e3,e4⟩:=h;refine⟨q,arr,e,e1,e2,by grind,λj x hj=>?_⟩;rw[zau,zam]at hj;obtain⟨y,hy,rfl⟩:=hj;obtain⟨u,hu,hr⟩:=e4 j y hy;exact⟨u,hu,hr.kill⟩
 |mp kvs=>exact h
 |row k rows=>exact h
 |tr k ver rows=>exact h
end
theorem Obj.ypk(id:Nat)(o:Obj):o.kill id≠.none↔o≠.none:=by cases o<;>simp[Obj.kill]
def Obj.yDN(id:Nat)(o:Obj):o.like (o.kill id):=by cases o<;>simp_all [Obj.kill,Obj.like,Obj.nO]
def AV.kills(l:List Nat)(x:AV):AV:=l.foldl (λx i=>x.kill i) x
def Obj.kills(l:List Nat)(o:Obj):Obj:=l.foldl (λo i=>o.kill i) o
def ybg(O:Nat->Obj)(l:List Nat)(i:Nat):Obj:=if i∈l then .none else O i
def yqy(O:Nat->Obj)(a:Nat)(l:List Nat):ybg (ycr O a) l=ybg O (a::l):=by
 grind [ybg,ycr]
theorem yhp(O:Nat->Obj):ybg O []=O:=by rfl
def RV.kills{w:World}{G:Nat->Prop}{blk:Nat->Option Nat}{v:Value}:∀(l:List Nat) {O:Nat->Obj} {x:AV},RV w G O blk v x->RV w G (ybg O l) blk v (x.kills l)
 |[],O,x,h=>by rw[yhp];exact h
 |a::l,O,x,h=>by rw[<-yqy];exact RV.kills l (O:=ycr O a) (RV.kill h)
def jU.kills{w:World}{G:Nat->Prop}{blk:Nat->Option Nat}{S:Nat->Prop}{b:Option Nat}:∀(l:List Nat) {O:Nat->Obj} {o:Obj},jU w G O blk S b o->jU w G (ybg O l) blk S b (o.kills l)
 |[],O,o,h=>by rw[yhp];exact h
 |a::l,O,o,h=>by rw[<-yqy];exact jU.kills l (O:=ycr O a) (jU.kill h)
theorem Obj.lY:∀(l:List Nat) (o:Obj),o.kills l≠.none↔o≠.none
 |[],o=>Iff.rfl
 |a::l,o=>(Obj.lY l (o.kill a)).trans (Obj.ypk a o)
def Obj.yCz{a b c:Obj}(h1:a.like b)(h2:b.like c):a.like c:=by
 cases a with
 |none=>trivial
 |box l=>cases b<;>first|(cases c<;>first|trivial|exact h2.elim)|exact h1.elim
 |mp l=>cases b<;>first|(cases c<;>first|trivial|exact h2.elim)|exact h1.elim
 |row k rows=>
  obtain⟨n,hn,hle⟩:=h1;obtain⟨m,hm,hle2⟩:=Obj.ylf h2 hn;exact⟨m,hm,by omega⟩
 | tr k v rows=>
  cases b with
  | tr k1 v1 rows1=>
   obtain⟨rfl,a1,a2,a3⟩:=h1;cases c with
   |tr k2 v2 rows2=>
    obtain⟨rfl,b1,b2,b3⟩:=h2;refine⟨rfl,by omega,by omega,λe=>?_⟩;rw[a3 (by omega),b3 (by omega)]
   |_=>exact h2.elim
  |_=>exact h1.elim
theorem Obj.yup:∀(l:List Nat) (o:Obj),o.like (o.kills l)
 |[],o=>Obj.yxw o
 |a::l,o=>Obj.yCz (Obj.yDN a o) (Obj.yup l (o.kill a))
theorem Obj.yaz:∀(l:List Nat),Obj.none.kills l=.none
 |[]=>rfl
 |_::l=>Obj.yaz l
theorem St.ydJ:∀(l:List Nat) (s:St) (t:Nat),(s.drops l).env t=(s.env t).kills l
 |[],s,t=>rfl
 |a::l,s,t=>by simp only[St.drops];rw[St.ydJ l];rfl
theorem St.pV:∀(l:List Nat) (s:St) (i:Nat),(s.drops l).yRU i=if i∈l then .none else(s.yRU i).kills l
 |[],s,i=>by rfl
 | a::l,s,i=>by
  simp only[St.drops];rw[St.pV l]
  by_cases h1:i∈l
  .grind
  .by_cases h2:i=a
   .simp_all [Obj.yaz,St.drop,St.renew,upd]
   .have e:(s.drop a).yRU i=(s.yRU i).kill a:=by simp_all [St.drop,St.renew,upd]
    rw[if_neg h1,e,if_neg (by grind)];rfl
section
variable {g:ySm} {s:St} {a:Act} {w:World} {L:Lay}
def ycl(h:Repr g s a w L){b:Nat}(hg:Good g s.yRU L w b):b<w.heap.size:=by
 rcases hg.1 with(h1|h1)|h1
 .have:=h.g0 b h1;have:=h.below.size;omega
 .have:=h.f0 b h1;have:=h.below.size;omega
 omega
theorem Repr.yq6(h:Repr g s a w L)(ids:List Nat)(Ch:Nat->Prop){objs':Nat->Obj}{w':World}{L':Lay}{X:Nat->Prop}
 (hoff:Off X w w') (hX:∀q,X q->∃i,(Ch i\/i∈ids)/\s.yRU i≠.none/\L.fp i q)
 (same:∀i,¬Ch i->objs' i=(if i∈ids then .none else(s.yRU i).kills ids)/\L'.root i=L.root i/\L'.sub i=L.sub i)
 (origin:∀i b,Ch i->objs' i≠.none->L'.fp i b->(∃i0,(Ch i0\/i0∈ids)/\s.yRU i0≠.none/\L.fp i0 b)\/(w.heap.size<=b/\b<w'.heap.size))
 (injCh:∀i j b,Ch i->Ch j->objs' i≠.none->objs' j≠.none->L'.fp i b->L'.fp j b->i=j)
 (apartCh:∀i b,Ch i->objs' i≠.none->L'.root i=some b->¬L'.sub i b)
 (likeCh:∀i,Ch i->i∉ids->s.yRU i≠.none->(s.yRU i).like (objs' i)/\L'.root i=L.root i)
 (subsCh:∀i k v rows,Ch i->i∉ids->s.yRU i=.tr k v rows->objs' i≠.tr k v rows)
 (ok:∀G',Keeps w w' (Good g s.yRU L w) G' (ybg s.yRU ids) objs' L L'->(∀b,w.heap.size<=b->b<w'.heap.size->(∀i,Ch i->objs' i≠.none->¬L'.fp i b)->G' b)->
  (∀b,(∃i0,(Ch i0\/i0∈ids)/\s.yRU i0≠.none/\L.fp i0 b)->(∀i,Ch i->objs' i≠.none->¬L'.fp i b)->G' b)->∀i,Ch i->jU w' G' objs' L' (L'.sub i) (L'.root i) (objs' i)):
 Repr g ⟨λt=>(s.env t).kills ids,objs'⟩ a w' L'/\Keeps w w' (Good g s.yRU L w) (Good g objs' L' w') (ybg s.yRU ids) objs' L L'/\
  (∀b,w.heap.size<=b->b<w'.heap.size->(∀i,Ch i->objs' i≠.none->¬L'.fp i b)->Good g objs' L' w' b):=by
 have live:∀i,¬Ch i->objs' i≠.none->i∉ids/\s.yRU i≠.none:=by
  grind [Obj.lY]
 have fps:∀i b,¬Ch i->(L'.fp i b↔L.fp i b):=by
  grind [Lay.fp]
 have noX:∀i b,¬Ch i->i∉ids->s.yRU i≠.none->L.fp i b->¬X b:=by
  intro i b hi hm hl hf hx;obtain⟨i0,h1,h2,h3⟩:=hX b hx;have:=h.inj i0 i b h2 hl h3 hf
  grind
 have goodX:∀b,Good g s.yRU L w b->¬X b:=by
  intro b hg hx;obtain⟨i0,h1,h2,h3⟩:=hX b hx;exact hg.2 i0 h2 h3
 have K:Keeps w w' (Good g s.yRU L w) (Good g objs' L' w') (ybg s.yRU ids) objs' L L':=by
  refine⟨λb hg=>⟨?_,λi hi hf=>?_⟩,λad u hg hc=>?_,λi hi=>?_,λi hi b arr e h1 h2=>?_,λi k v rows h1 h2 b hb=>?_,λb o hg hc=>by rw[hoff.block b (ycl h hg) (goodX _ hg)];omega⟩
  .rcases hg.1 with h1|h1
   .grind
   .exact .inr ⟨h1.1,by have:=hoff.size;omega⟩
  .by_cases hc:Ch i
   .rcases origin i b hc hi hf with⟨i0,_,h2,h3⟩|h2
    .exact hg.2 i0 h2 h3
    .have:=ycl h hg;omega
   .exact hg.2 i (live i hc hi).2 ((fps i b hc).1 hf)
  .rw[World.cell?_of_block (hoff.block ad.block (ycl h hg) (goodX _ hg))];omega
  .grind [Obj.yup,ybg]
  .exact hoff.any h2
  .unfold ybg at h1
   by_cases hm:i∈ids
   .grind
   .rw[if_neg hm]at h1
    by_cases hc:Ch i
    .grind
    .have hl:s.yRU i≠.none:=by grind
     exact hoff.block b (h.new i b hl (.inl hb)).2 (noX i b hc hm hl (.inl hb))
 have hN:∀b,w.heap.size<=b->b<w'.heap.size->(∀i,Ch i->objs' i≠.none->¬L'.fp i b)->Good g objs' L' w' b:=by
  intro b h1 h2 h3;refine⟨.inr ⟨by have:=h.below.size;omega,h2⟩,λi hi hf=>?_⟩
  by_cases hc:Ch i
  .grind
  .have:=(h.new i b (live i hc hi).2 ((fps i b hc).1 hf)).2;omega
 have hM:∀b,(∃i0,(Ch i0\/i0∈ids)/\s.yRU i0≠.none/\L.fp i0 b)->(∀i,Ch i->objs' i≠.none->¬L'.fp i b)->Good g objs' L' w' b:=by
  rintro b ⟨i0,h1,h2,h3⟩ h4
  obtain⟨n1,n2⟩:=h.new i0 b h2 h3;refine⟨?_,λi hi hf=>?_⟩
  .rcases n1 with n1|n1
   .grind
   .exact .inr ⟨n1,by have:=hoff.size;omega⟩
  .by_cases hc:Ch i
   .grind
   .have hl:=live i hc hi;have:=h.inj i0 i b h2 hl.2 h3 ((fps i b hc).1 hf)
    grind
 refine⟨⟨h.size,h.small,h.defers,h.below.then hoff (λq hq=>?_),h.g0,h.f0,h.g0f,λt=>(RV.kills ids (h.env t)).keep K,λi=>?_,λi b hi hf=>?_,λi j b hi hj hfi hfj=>?_,λi b hi hr=>?_⟩,K,hN⟩
 .obtain⟨i0,_,h2,h3⟩:=hX q hq;exact(h.new i0 q h2 h3).1
 .show jU w' (Good g objs' L' w') objs' L' (L'.sub i) (L'.root i) (objs' i)
  by_cases hc:Ch i
  .grind
  .obtain⟨e1,e2,e3⟩:=same i hc;rw[e1,e2,e3]
   by_cases hm:i∈ids
   .rw[if_pos hm];trivial
   .rw[if_neg hm];refine(jU.kills ids (h.yRU i)).keep K (λq hq hl=>?_) (λq hq hl=>?_)
    .have hl:=(Obj.lY ids _).1 hl;exact hoff.block q (h.new i q hl (.inl hq)).2 (noX i q hc hm hl (.inl hq))
    .have hl:=(Obj.lY ids _).1 hl;exact hoff.block q (h.new i q hl (.inr hq)).2 (noX i q hc hm hl (.inr hq))
 .by_cases hc:Ch i
  .rcases origin i b hc hi hf with⟨i0,_,h2,h3⟩|h2
   .have:=h.new i0 b h2 h3;exact⟨this.1,by have:=hoff.size;omega⟩
   .exact⟨.inr (by have:=h.below.size;omega),h2.2⟩
  .have:=h.new i b (live i hc hi).2 ((fps i b hc).1 hf);exact⟨this.1,by have:=hoff.size;omega⟩
 .have mixed:∀i j,Ch i->¬Ch j->objs' i≠.none->objs' j≠.none->L'.fp i b->L'.fp j b->False:=by
   intro i j hc hj hi hj' hfi hfj;obtain⟨hm,hl⟩:=live j hj hj';have hfj:=(fps j b hj).1 hfj;rcases origin i b hc hi hfi with⟨i0,h1,h2,h3⟩|h2
   .have:=h.inj i0 j b h2 hl h3 hfj
    grind
   .have:=(h.new j b hl hfj).2;omega
  by_cases hci:Ch i<;>by_cases hcj:Ch j
  .grind
  .grind
  .grind
  .exact h.inj i j b (live i hci hi).2 (live j hcj hj).2 ((fps i b hci).1 hfi) ((fps j b hcj).1 hfj)
 .by_cases hc:Ch i
  .grind
  .obtain⟨_,e2,e3⟩:=same i hc;rw[e3];rw[e2]at hr;exact h.apart i b (live i hc hi).2 hr
def Repr.turn(h:Repr g s a w L)(ids:List Nat)(Ch:Nat->Prop){objs':Nat->Obj}{w':World}{L':Lay}{X:Nat->Prop}
 (hoff:Off X w w') (hX:∀q,X q->∃i,(Ch i\/i∈ids)/\s.yRU i≠.none/\L.fp i q)
 (same:∀i,¬Ch i->objs' i=(if i∈ids then .none else(s.yRU i).kills ids)/\L'.root i=L.root i/\L'.sub i=L.sub i)
 (origin:∀i b,Ch i->objs' i≠.none->L'.fp i b->(∃i0,(Ch i0\/i0∈ids)/\s.yRU i0≠.none/\L.fp i0 b)\/(w.heap.size<=b/\b<w'.heap.size))
 (injCh:∀i j b,Ch i->Ch j->objs' i≠.none->objs' j≠.none->L'.fp i b->L'.fp j b->i=j)
 (apartCh:∀i b,Ch i->objs' i≠.none->L'.root i=some b->¬L'.sub i b)
 (likeCh:∀i,Ch i->i∉ids->s.yRU i≠.none->(s.yRU i).like (objs' i)/\L'.root i=L.root i)
 (subsCh:∀i k v rows,Ch i->i∉ids->s.yRU i=.tr k v rows->objs' i≠.tr k v rows)
 (ok:∀G',Keeps w w' (Good g s.yRU L w) G' (ybg s.yRU ids) objs' L L'->∀i,Ch i->jU w' G' objs' L' (L'.sub i) (L'.root i) (objs' i)):
 Repr g ⟨λt=>(s.env t).kills ids,objs'⟩ a w' L':=
 (h.yq6 ids Ch hoff hX same origin injCh apartCh likeCh subsCh λG' K _ _=>ok G' K).1
def AV.yTq(x:AV):x.kills []=x:=rfl
theorem Obj.yTq(o:Obj):o.kills []=o:=rfl
theorem Repr.yI4(h:Repr g s a w L)(id:Nat){o':Obj}{w':World}{L':Lay}{X:Nat->Prop}(hlive:s.yRU id≠.none)
 (hoff:Off X w w') (hX:∀q,X q->L.fp id q)
 (same:∀i,i≠id->L'.root i=L.root i/\L'.sub i=L.sub i)
 (hroot:L'.root id=L.root id) (hsub:∀b,L'.sub id b->L.sub id b)
 (hlike:(s.yRU id).like o')
 (hne:∀k v rows,s.yRU id=.tr k v rows->o'≠.tr k v rows)
 (ok:∀G' O',Keeps w w' (Good g s.yRU L w) G' s.yRU O' L L'->jU w' G' O' L' (L'.sub id) (L'.root id) o'):
 Repr g (s.iG id o') a w' L':=by
 have hO:∀i,upd id o' s.yRU i=if i=id then o' else s.yRU i:=λi=>rfl
 refine h.turn [] (λi=>i=id) hoff (λq hq=>⟨id,.inl rfl,hlive,hX q hq⟩) (λi hi=>?_) (λi b hi _ hf=>?_) (λi j b hi hj _ _ _ _=>hi.trans hj.symm) (λi b hi _ hr=>?_) (λi hi _ _=>?_) (λi k v rows hi _ hk=>?_) (λG' K i hi=>?_)
 .obtain⟨e1,e2⟩:=same i hi;exact⟨by grind [Obj.yTq],e1,e2⟩
 .subst hi;refine .inl ⟨i,.inl rfl,hlive,?_⟩;rcases hf with hf|hf
  .exact .inl (by rw[<-hroot];exact hf)
  .exact .inr (hsub b hf)
 .subst hi;rw[hroot]at hr
  exactλhs=>h.apart i b hlive hr (hsub b hs)
 .grind
 .grind
 .grind [yhp]
def yvq(G:Nat->Prop)(O:Nat->Obj)(blk:Nat->Option Nat):Keeps w w.drew G G O O blk blk:=
 ⟨λ_ h=>h,λ_ _ _ h=>h,λ_ _=>⟨Obj.yxw _,rfl⟩,λ_ _ _ arr _ _ h=>⟨arr,h,rfl⟩,λ_ _ _ _ _ _ _ _=>rfl,λ_ _ _ h=>h⟩
def Repr.drew(h:Repr g s a w L):Repr g s a w.drew L:=
 ⟨h.size,h.small,h.defers,h.below.drew,h.g0,h.f0,h.g0f,λt=>(h.env t).keep (yvq _ _ _),λi=>(h.yRU i).keep (yvq _ _ _) (λ_ _ _=>rfl) (λ_ _ _=>rfl),h.new,h.inj,h.apart⟩
theorem yhx(w:World)(b:Nat)(arr arr':Array Value)(e:TypeId)(hh:w.heap[b]?=some (.cells arr e (0,0)))(hs:arr'.size=arr.size):Off (λq=>q=b) w (w.setRow b arr'):=
 ⟨rfl,rfl,rfl,by simp,λk _ hk=>setRow_other w b k arr' hk,λk arr2 e2 hk h2=>by
  grind [setRow_heap]⟩
theorem Repr.setRow(h:Repr g s a w L){id b:Nat}{arr arr':Array Value}{e:TypeId}{o':Obj}(hlive:s.ob id≠.none)(hb:L id=some b)(hh:w.heap[b]?=some (.cells arr e (0,0)))(hs:arr'.size=arr.size)
 (hl:(s.ob id).like o') (hne:∀k v rows,s.ob id=.tr k v rows->o'≠.tr k v rows)
 (ok:∀w' G' O',Keeps w w' (Good g s.yRU L w) G' s.yRU O' L L->w'.heap[b]?=some (.cells arr' e (0,0))->(∀x,L.sub id x->w'.heap[x]?=w.heap[x]?)->jU w' G' O' L (L.sub id) (some b) o'):
 Repr g (s.iG id o') a (w.setRow b arr') L:=by
 have hset:=setRow_heap w b arr arr' e (0,0) hh;refine h.yI4 id hlive (yhx w b arr arr' e hh hs) (λq hq=>.inl (by grind)) (λ_ _=>⟨rfl,rfl⟩) rfl (λ_ h=>h) hl hne (λG' O' K=>?_)
 .rw[show L.root id=some b from hb];refine ok _ _ _ K hset λx hx=>setRow_other w b x arr' ?_
  rintro rfl
  exact h.apart id x hlive hb hx
theorem Repr.alloc(h:Repr g s a w L){d:Nat}{arr:Array Value}{e:TypeId}{o':Obj}(hd:s.ob d=.none)
 (ok:∀w' G' O' blk',Keeps w w' (Good g s.yRU L w) G' s.yRU O' L blk'->w'.heap[w.heap.size]?=some (.cells arr e (0,0))->jU w' G' O' blk' noF (some w.heap.size) o'):
 Repr g ⟨s.env,upd d o' s.yRU⟩ a (w.alloc (.cells arr e)) (L.upd d (some w.heap.size) noF):=by
 have hO:∀i,upd d o' s.yRU i=if i=d then o' else s.yRU i:=λi=>rfl
 have hd':s.yRU d=.none:=hd;have hoff:Off noF w (w.alloc (.cells arr e)):=(Off.refl noF w).alloc _;refine h.turn [] (λi=>i=d) hoff (λq hq=>hq.elim) (λi hi=>?_) (λi b hi _ hf=>?_) (λi j b hi hj _ _ _ _=>hi.trans hj.symm) (λi b hi _ hr=>?_) (λi hi _ hl=>?_) (λi k v rows hi _ hk=>?_) (λG' K i hi=>?_)
 .exact⟨by simp[hO,hi,Obj.yTq],by rw[Lay.eH,if_neg hi],by grind [Lay.oN]⟩
 .subst hi;rw[Lay.ypg,if_pos rfl]at hf;rcases hf with hf|hf
  .cases hf;exact .inr ⟨Nat.le_refl _,by simp⟩
  .exact hf.elim
 .subst hi;rw[Lay.oN,if_pos rfl];exact id
 .subst hi;exact absurd hd' hl
 .subst hi;rw[hd']at hk;cases hk
 .subst hi;rw[yhp]at K;rw[hO,if_pos rfl,Lay.oN,if_pos rfl,Lay.eH,if_pos rfl];exact ok _ _ _ _ K (heap_alloc_new w _)
end
end Go.Proofs.YtdadkiofenhnbaaGreat
namespace Go.Proofs.YtdadkiofenhnbaaGreat
open Go.RowKit
section
variable {P:Program} {g:ySm} {o:Oper} {s:St} {a:Act} {w:World} {blk:Lay} {K:St->Prop}
theorem yaa{s:St}{d:Nat}(h:(s.ob d).isNone=true):s.ob d=.none:=by
 grind [Obj.isNone]
theorem ycf{t:TypeId}{n:Nat}(hn:ycM P t=some n){b off:Nat}{arr:Array Value}{e:TypeId}{v:Value}(hh:w.heap[b]?=some (.cells arr e (0,0)))(hv:v.cells.size=n)(hfit:off+n<=arr.size)
 (h1:∀u∈v.cells.toList,u.oneCell'=true):
 (Instr.storeAt t (.pointer (some ⟨b,off,none⟩)) v).run P w=.ok () (w.setRow b (arr.toList.take off++v.cells.toList++arr.toList.drop (off+n)).toArray):=by
 obtain⟨i,hi,hin⟩:=yaT hn;have:=run_storeCells_at P b off e _ 0 _ w hh (by grind) h1
 simp_all [pK,Instr.storeAt,Instr.sureAddr,storeVar]
theorem mX(arr:Array Value)(vs:List Value)(off n:Nat)(hn:vs.length=n)(hfit:off+n<=arr.size):(arr.toList.take off++vs++arr.toList.drop (off+n)).toArray.size=arr.size:=by
 grind
theorem yaH(arr:Array Value)(vs:List Value)(off n:Nat)(hn:vs.length=n)(hfit:off+n<=arr.size)(j:Nat):
 (arr.toList.take off++vs++arr.toList.drop (off+n)).toArray[j]?=if j<off then arr[j]? else if j<off+n then vs[j-off]? else arr[j]?:=by
 grind
theorem ycB{α:Type}(arr vs:List α)(off n:Nat)(hn:vs.length=n)(hfit:off+n<=arr.length)(j:Nat):
 (arr.take off++vs++arr.drop (off+n))[j]?=if j<off then arr[j]? else if j<off+n then vs[j-off]? else arr[j]?:=by
 grind
theorem yvZ{α:Type}(l:List α)(i:Nat)(x:α)(h:i<l.length):l.set i x=l.take i++[x]++l.drop (i+1):=by
 grind [List.set_eq_take_append_cons_drop]
theorem yld(h:Repr g s a w blk){t:TypeId}{n b off id:Nat}{p q:Operand}{o':Obj}{arr:Array Value}{e:TypeId}(ho:o.op=.store t p q)(hn:ycM P t=some n)
 (hp:a.eval p=.pointer (some ⟨b,off,none⟩)) (hlive:s.ob id≠.none) (hb:blk id=some b) (hh:w.heap[b]?=some (.cells arr e (0,0)))
 (hv:(a.eval q).cells.size=n) (hfit:off+n<=arr.size) (h1:∀u∈(a.eval q).cells.toList,u.oneCell'=true) (hl:(s.ob id).like o') (hne:∀k v rows,s.ob id≠.tr k v rows)
 (ok:∀w' G' O',Keeps w w' (Good g s.yRU blk w) G' s.yRU O' blk blk->w'.heap[b]?=some (.cells (arr.toList.take off++(a.eval q).cells.toList++arr.toList.drop (off+n)).toArray e (0,0))->jU w' G' O' blk (blk.sub id) (some b) o')
 (hd:∀i,o.dst=some i->i<g.N) (hK:K ((s.iG id o').put o.dst .und)):iE P g o a w K:=by
 have hr:=ycf hn hh hv hfit h1
 have hrun:(execOp a.eval o).run P w=.ok .skip (w.setRow b (arr.toList.take off++(a.eval q).cells.toList++arr.toList.drop (off+n)).toArray):=by
  grind [Sem.run_bind,Result.andThen_ok,Sem.run_pure,execOp]
 refine⟨.skip,_,hrun,_,blk,hK,?_⟩;exact(h.setRow hlive hb hh (mX arr _ off n (by omega) hfit) hl (λk v rows e=>absurd e (hne k v rows)) (λw' G' O' K hh' _=>ok w' G' O' K hh')).put (v:=undef) (x:=.und) hd (show undef=undef from rfl)
theorem ysE{t:TypeId}{p q:Operand}{w':World}(ho:o.op=.store t p q)(hr:(Instr.storeAt t (a.eval p) (a.eval q)).run P w=.ok () w'):(execOp a.eval o).run P w=.ok .skip w':=by
 grind [Sem.run_bind,Result.andThen_ok,Sem.run_pure,execOp]
theorem ylk{v:Value}(h:v.cells= #[v]):v.cells.size=1/\v.cells.toList=[v]:=by grind
theorem yk8{G:Nat->Prop}{O:Nat->Obj}{bl:Nat->Option Nat}{v:Value}{x:AV}{c:C}(h:RV1 w G O bl v x)(hx:x.toC=some c):Rd w G v c:=by
 cases x<;>simp[AV.toC]at hx
 .subst hx;exact h
 .subst hx;cases h;exact .sl (λ_ _=>default) rfl (by grind) (by omega) (by simp) (by simp) (by simp) (by simp)
 .subst hx;obtain⟨_,_,_,hr⟩:=h;omega
def yFn{v:Value}{x:AV}{c:C}(h:RVs g s w blk v x)(hx:x.toC=some c):Rd w (Good g s.yRU blk w) v c:=by
 cases x<;>simp[AV.toC]at hx
 .subst hx;exact h
 .subst hx;exact yk8 (O:=s.yRU) (bl:=blk) (x:=.nil _) h rfl
 .subst hx;obtain⟨_,_,_,hr⟩:=h;omega
theorem yt6:∀{l:List AV} {cs:List C},AV.yhD l=some cs->cs.length=l.length/\∀(j:Nat) (c:C),cs[j]?=some c->∃x,l[j]?=some x/\x.toC=some c
 |[],cs,h=>by cases h;simp
 | x::l,cs,h=>by
  simp[AV.yhD]at h;split at h
  .rename_i c1 cs1 h1 h2;obtain⟨hl,hg⟩:=yt6 h2
   grind
  grind
theorem yw7{l:List AV}{v:Value}(h:RVs g s w blk v (.agg l)):v.cells.size=l.length/\
 ∀(j:Nat) (x:AV),l[j]?=some x->∃u,v.cells.toList[j]?=some u/\RV1 w (Good g s.yRU blk w) s.yRU blk u x:=by
 obtain⟨arr,rfl,h1,h2⟩:=h
 grind [Value.cells]
theorem yg5{x:AV}{v:Value}(h:RVs g s w blk v x)(hok:x.cellsOf.all AV.lH=true):v.cells.size=x.cellsOf.length/\
 ∀(j:Nat) (y:AV),x.cellsOf[j]?=some y->∃u,v.cells.toList[j]?=some u/\RV1 w (Good g s.yRU blk w) s.yRU blk u y:=by
 have other:x.cellsOf=[x]->v.cells.size=x.cellsOf.length/\∀(j:Nat) (y:AV),x.cellsOf[j]?=some y->∃u,v.cells.toList[j]?=some u/\RV1 w (Good g s.yRU blk w) s.yRU blk u y:=by
  intro e;have hx:x.lH=true:=by grind
  have h1:=h.one1 hx;obtain⟨_,h2⟩:=h1.one hx
  grind
 cases x with
 |agg l=>exact yw7 h
 |_=>exact other rfl
theorem yH3{l:List AV}(hok:l.all AV.lH=true){us:List Value}(hl:us.length=l.length){G:Nat->Prop}{O:Nat->Obj}
 (h:∀(j:Nat) (x:AV),l[j]?=some x->∃u,us[j]?=some u/\RV1 w G O blk u x):∀u∈us,u.oneCell'=true:=by
 intro u hu;obtain⟨j,hj⟩:=zat hu;have hlt:j<l.length:=by grind
 obtain⟨u',hu',hr⟩:=h j _ (zab _);rw[hj]at hu';cases hu';exact(hr.one (zaf.1 hok _ (zbo hlt))).1
theorem yE4{cs:List C}{us:List Value}(hl:us.length=cs.length){G:Nat->Prop}
 (h:∀(j:Nat) (c:C),cs[j]?=some c->∃u,us[j]?=some u/\Rd w G u c):∀u∈us,u.oneCell'=true:=by
 intro u hu;obtain⟨j,hj⟩:=zat hu;have hlt:j<cs.length:=by grind
 obtain⟨u',hu',hr⟩:=h j _ (zab hlt);rw[hj]at hu';cases hu';exact hr.one
theorem ykc(h:Repr g s a w blk){id k n:Nat}{v:Value}(hv:RV1 w (Good g s.yRU blk w) s.yRU blk v (.own id k n)){c:C}{ids:List Nat}(hp:pk1 s (.own id k n)=some (c,ids)):
 ids=[id]/\s.yRU id≠.none/\OT w (Good g s.yRU blk w) v c (blk.fp id):=by
 obtain⟨m,ho,hn,hv⟩:=hv;simp only[pk1]at hp;split at hp
 .rename_i k' rows hO;split at hp
  .rename_i e;subst e;cases hp;have hO':s.yRU id=.row k' rows:=hO;rw[hO']at ho;cases ho;refine⟨rfl,by grind,?_⟩;rcases hv with⟨hb,rfl,A0,rfl⟩|⟨b,cap,arr,e,hb,rfl,h1,h2,h3,h4⟩
   .simp only[zdy];exact .ow0
   .obtain⟨arr',e',r1,r2,r3,r4⟩:=h.row hO hb;rw[h3]at r1;cases r1
    have get:∀(i:Nat) (r:List C),(rows.take n)[i]?=some r->rows[i]?=some r:=by
     grind
    refine .ow (λi j=>(arr[i*k'+j]?).getD default) h3 (by grind) h1 h2 h4 (λr hr=>r3 r (zaw hr)) (.inl hb) (λi r hr j c hc=>?_) (λi r hr j c hc=>?_)<;>grind
  grind
 .rename_i k' ver rows hO;split at hp
  .rename_i e;subst e;cases hp;have hO':s.yRU id=.tr k' ver rows:=hO;rw[hO']at ho;cases ho;refine⟨rfl,by grind,?_⟩;rcases hv with⟨hb,rfl,A0,rfl⟩|⟨b,cap,arr,e,hb,rfl,h1,h2,h3,h4⟩
   .simp only[zdy];exact .ot0
   .obtain⟨arr',e',r1,r2,r3,vals,Fs,r4,r5,r6,r7⟩:=h.tree hO hb;rw[h3]at r1;cases r1
    have get:∀(i:Nat) (r:List C),(rows.take n)[i]?=some r->rows[i]?=some r:=by
     grind
    exact .ot vals Fs h3 (by grind) h1 h2 h4 (λr hr=>r3 r (zaw hr)) (.inl hb) (λi j x hx=>⟨.inr (r4 i j x hx).1,(r4 i j x hx).2⟩) r5 (λi r hr j c hc=>r6 i r (get i r hr) j c hc) (λi r hr j c hc=>r7 i r (get i r hr) j c hc)
  grind
 grind
theorem yGe(h:Repr g s a w blk){v:Value}{x:AV}{c:C}{ids:List Nat}(hv:RV1 w (Good g s.yRU blk w) s.yRU blk v x)(hp:pk1 s x=some (c,ids)):
 ∃F,OT w (Good g s.yRU blk w) v c F/\∀y,F y->∃i0,i0∈ids/\s.yRU i0≠.none/\blk.fp i0 y:=by
 cases x with
 |c x=>
  simp only[pk1]at hp;split at hp
  .cases hp;exact⟨noF,.sh hv,λy hy=>hy.elim⟩
  grind
 |clip k rows=>cases hp;exact⟨noF,.sh (yk8 hv rfl),λy hy=>hy.elim⟩
 |nil k=>cases hp;exact⟨noF,.sh (yk8 hv rfl),λy hy=>hy.elim⟩
 |own id k n=>
  obtain⟨rfl,h1,h2⟩:=ykc h hv hp
  grind
 |_=>cases hp
theorem ys4(h:Repr g s a w blk):∀{l:List AV} {us:List Value} {cs:List C} {ids:List Nat},pkl s l=some (cs,ids)->
 (∀(j:Nat) (x:AV),l[j]?=some x->∃u,us[j]?=some u/\RV1 w (Good g s.yRU blk w) s.yRU blk u x)->ids.Nodup->
 ∃Fs:Nat->Nat->Prop,cs.length=l.length/\(∀(j:Nat) (c:C),cs[j]?=some c->∃u,us[j]?=some u/\OT w (Good g s.yRU blk w) u c (Fs j))/\
  (∀j y,Fs j y->∃i0,i0∈ids/\s.yRU i0≠.none/\blk.fp i0 y)/\(∀j j' y,Fs j y->Fs j' y->j=j')
 |[],us,cs,ids,hp,_,_=>by
  cases hp;exact⟨λ_=>noF,rfl,by grind,λ_ _ h=>h.elim,λ_ _ _ h=>h.elim⟩
 | x ::l,us,cs,ids,hp,hv,hnd=>by
  simp[pkl]at hp;split at hp
  .rename_i c a1 cs1 as1 h1 h2;cases hp;obtain⟨u0,hu0,hr0⟩:=hv 0 x rfl;obtain⟨F0,hF0,hF0i⟩:=yGe h hr0 h1;have hnd':=zaY.1 hnd;obtain⟨Fs,e1,e2,e3,e4⟩:=ys4 h (us:=us.tail) h2 (by simp_all) hnd'.2.1;refine⟨λj=>match j with|0=>F0|j+1=>Fs j,by grind,λj c' hj=>?_,λj y hy=>?_,λj j' y hy hy'=>?_⟩
   .grind
   .cases j with
    |zero=>grind
    |succ j=>grind
   .have cross:∀j,F0 y->Fs j y->False:=by
     intro j q1 q2;obtain⟨i0,m1,m2,m3⟩:=hF0i y q1;obtain⟨i1,n1,n2,n3⟩:=e3 j y q2;have:=h.inj _ _ y m2 n2 m3 n3
     grind
    cases j with
    |zero=>cases j' with
     |zero=>rfl
     |succ j'=>grind
    |succ j=>cases j' with
     |zero=>grind
     |succ j'=>grind
  grind
theorem Repr.ywZ(h:Repr g s a w blk){id k ver b i off n:Nat}{rows:List (List C)}{arr:Array Value}{e:TypeId}(hO:s.ob id=.tr k ver rows)(hb:blk id=some b)(hh:w.heap[b]?=some (.cells arr e (0,0)))(hi:i<rows.length)(hoff:off+n<=k)
 {vs:List Value} {cs:List C} {ids:List Nat} {Fs:Nat->Nat->Prop} (hvs:vs.length=n) (hcs:cs.length=n) (hid:id∉ids)
 (hot:∀(j:Nat) (c:C),cs[j]?=some c->∃u,vs[j]?=some u/\OT w (Good g s.yRU blk w) u c (Fs j))
 (hF:∀j y,Fs j y->∃i0,i0∈ids/\s.yRU i0≠.none/\blk.fp i0 y) (hdis:∀j j' y,Fs j y->Fs j' y->j=j'):
 ∃L',Repr g ((s.drops ids).iG id (.tr k (ver+1) (rows.set i ((rows.getD i []).take off++cs++(rows.getD i []).drop (off+n))))) a (w.setRow b (arr.toList.take (i*k+off)++vs++arr.toList.drop (i*k+off+n)).toArray) L':=by
 obtain⟨arr',e',t1,t2,t3,vals0,Fs0,t4,t5,t6,t7⟩:=h.tree hO hb;rw[hh]at t1;cases t1;have hO':s.yRU id=.tr k ver rows:=hO;have hlive:s.yRU id≠.none:=by grind
 have hr:=qP (d:=[]) hi;have hl:(rows.getD i []).length=k:=t3 _ (zac hr);have hle:(i+1)*k<=rows.length*k:=zaq _ hi;rw[zbB,zco]at hle;have hfit:i*k+off+n<=arr.size:=by omega
 have hset:=setRow_heap w b arr (arr.toList.take (i*k+off)++vs++arr.toList.drop (i*k+off+n)).toArray e (0,0) hh;have hsz:=mX arr vs (i*k+off) n hvs hfit
 have fpb:∀y,(∃i0,i0∈ids/\s.yRU i0≠.none/\blk.fp i0 y)->y≠b/\¬blk.sub id y/\y<w.heap.size:=by
  rintro y ⟨i0,m1,m2,m3⟩
  refine⟨λe=>?_,λhs=>?_,(h.new i0 y m2 m3).2⟩
  .have:=h.inj i0 id y m2 hlive m3 (.inl (by grind))
   grind
  .have:=h.inj i0 id y m2 hlive m3 (.inr hs)
   grind
 refine⟨blk.upd id (some b) (λy=>blk.sub id y\/∃i0,i0∈ids/\s.yRU i0≠.none/\blk.fp i0 y),?_⟩
 have hst:∀o',(s.drops ids).iG id o'=⟨λt=>(s.env t).kills ids,upd id o' (s.drops ids).yRU⟩:=by
  intro o';unfold St.iG
  congr 1
  grind [St.ydJ]
 rw[hst];have hup:∀(o':Obj) j,upd id o' (s.drops ids).yRU j=if j=id then o' else(s.drops ids).yRU j:=λ_ _=>rfl
 refine h.turn ids (λj=>j=id) (yhx w b arr _ e hh hsz) (λy hy=>⟨id,.inl rfl,hlive,.inl (by grind)⟩) (λj hj=>?_) (λj y hj _ hf=>?_) (λj j' y hj hj' _ _ _ _=>hj.trans hj'.symm) (λj y hj _ hr'=>?_) (λj hj _ _=>?_) (λj k' v' rows' hj _ hk=>?_) (λG' K j hj=>?_)
 .grind [St.pV,Lay.eH,Lay.oN]
 .subst hj;rw[Lay.ypg,if_pos rfl]at hf;rcases hf with hf|hf|⟨i0,m1,m2,m3⟩
  .cases hf;exact .inl ⟨j,.inl rfl,hlive,.inl hb⟩
  .exact .inl ⟨j,.inl rfl,hlive,.inr hf⟩
  grind
 .subst hj;rw[Lay.eH,if_pos rfl]at hr';cases hr';rw[Lay.oN,if_pos rfl]
  rintro(hs|hs)
  .exact h.apart j b hlive hb hs
  grind
 .subst hj;rw[hup,if_pos rfl,hO',Lay.eH,if_pos rfl];exact⟨⟨rfl,by simp,by omega,λe=>by omega⟩,hb.symm⟩
 .grind
 .subst hj;rw[hup,if_pos rfl,Lay.eH,if_pos rfl,Lay.oN,if_pos rfl];refine .inr ⟨b,_,e,rfl,hset,by grind,λr hr2=>?_,?_⟩
  .grind
  .have mono:∀{v:Value} {c:C} {F:Nat->Prop},OT w (Good g s.yRU blk w) v c F->(∀y,F y->y≠b)->OT (w.setRow b (arr.toList.take (i*k+off)++vs++arr.toList.drop (i*k+off+n)).toArray) G' v c F:=λho hF=>ho.mono K.good K.cell (λ_ h=>h) λy hy=>setRow_other w b y _ (hF y hy);refine⟨λi2 j2=>if i2=i/\off<=j2/\j2<off+n then(vs[j2-off]?).getD undef else vals0 i2 j2,λi2 j2=>if i2=i/\off<=j2/\j2<off+n then Fs (j2-off)else Fs0 i2 j2,λi2 j2 y hy=>?_,λi2 j2 i3 j3 y hy hy'=>?_,λi2 r hr2 j2 c hc=>?_,λi2 r hr2 j2 c hc=>?_⟩
   .grind
   .grind
   .dsimp only;rw[yaH _ _ _ _ hvs hfit];rw[zaE]at hr2
    by_cases e2:i=i2
    .subst e2;rw[if_pos rfl,if_pos hi]at hr2;cases hr2;rw[ycB _ _ _ _ hcs (by omega)]at hc
     grind
    .rw[if_neg e2]at hr2;have hj:j2<k:=by grind
     have hold:=t6 i2 r hr2 j2 c hc;rw[if_neg (show¬(i2=i/\_)fromλh=>e2 h.1.symm)];split
     .omega
     .rename_i hge;rw[if_neg ?_];exact hold;intro hlt2;rcases zbY e2 with h6|h6
      .have:(i+1)*k<=i2*k:=zaq _ h6
       grind
      .have:(i2+1)*k<=i*k:=zaq _ h6
       grind
   .dsimp only;rw[zaE]at hr2
    by_cases e2:i=i2
    .subst e2;rw[if_pos rfl,if_pos hi]at hr2;cases hr2;rw[ycB _ _ _ _ hcs (by omega)]at hc
     grind
    grind
theorem Repr.yHn (h:Repr g s a w blk) {id k0 ver:Nat} {rows:List (List C)} (hO:s.ob id=.tr k0 ver rows) {i i':Int} {j k off:Nat} {v0:Value} (hv:RVs g s w blk v0 (.yak id ver i j k i' off)) {k':Nat} {rs:List (List C)} (hc:cellAt rows i.toNat j=some (.ow k' rs)) (hk:k'=k) (hi:i'.toNat<rs.length) (ho:off<k)
 {v:Value} {c:C} (hrd:Rd w (Good g s.yRU blk w) v c):
 ∃b arr e,v0=.pointer (some ⟨b,i'.toNat*k+off,none⟩)/\w.heap[b]?=some (.cells arr e (0,0))/\i'.toNat*k+off+1<=arr.size/\
  Repr g (s.iG id (.tr k0 (ver+1) (setAt rows i.toNat j (.ow k (setAt rs i'.toNat off c))))) a (w.setRow b (arr.toList.take (i'.toNat*k+off)++[v]++arr.toList.drop (i'.toNat*k+off+1)).toArray) blk:=by
 obtain⟨k1,ver1,rows1,hoo,hle,hs⟩:=hv;have hO':s.yRU id=.tr k0 ver rows:=hO;have hlive:s.yRU id≠.none:=by grind
 rw[hO']at hoo;cases hoo;obtain⟨b,len,cap,n,⟨q,r,c',e1,e2,e3,e4,e5⟩,rfl⟩:=hs rfl;obtain⟨r',f1,f2⟩:=ycF hc;rw[e3]at f1;cases f1;rw[e4]at f2;cases f2;obtain⟨arr0,e0,t1,t2,t3,vals0,Fs0,t4,t5,t6,t7⟩:=h.tree hO e1;have hcell:=t6 _ _ e3 _ _ e4;rw[cell_of w t1,hcell]at e2;replace e2:=Option.some.inj e2;have hot:=t7 _ _ e3 _ _ e4;rw[e2]at hot;subst hk;generalize hFF:Fs0 i.toNat j=F0 at hot;cases hot with
 |sh h=>cases h
 |ow0=>grind
 | @ow _ _ _ _ _ arr e _ vals h1 h2 h3 h4 h5 h6 h7 h8 h9=>
  rw[<-hFF]at h7;have hr:=qP (d:=[]) hi;have hl:(rs.getD i'.toNat []).length=k':=h6 _ (zac hr);have hle':(i'.toNat+1)*k'<=cap*k':=zaq _ (by omega);rw[zbB,zco]at hle';have hfit:i'.toNat*k'+off+1<=arr.size:=by omega
  have hset:=setRow_heap w b arr (arr.toList.take (i'.toNat*k'+off)++[v]++arr.toList.drop (i'.toNat*k'+off+1)).toArray e (0,0) h1;have hsz:=mX arr [v] (i'.toNat*k'+off) 1 rfl hfit;have hbq:b≠q:=(t4 _ _ b h7).2;refine⟨b,arr,e,rfl,h1,hfit,?_⟩;have hrl:r.length=k0:=t3 r (zac e3);have hjr:j<r.length:=(zaa.1 e4).1;have hir:i.toNat<rows.length:=(zaa.1 e3).1;have hgr:rows.getD i.toNat []=r:=by grind
  refine h.yI4 id hlive (yhx w b arr _ e h1 hsz) (λy hy=>.inr (by grind)) (λ_ _=>⟨rfl,rfl⟩) rfl (λ_ h=>h) ?_ (λk2 v2 rows2 hk=>?_) (λG' O' K=>?_)
  .rw[hO'];exact⟨rfl,by simp[setAt],by omega,λe=>by omega⟩
  .grind
  .rw [show blk.root id=some q from e1];refine .inr ⟨q,arr0,e0,rfl,by grind [setRow_other],by grind [setAt],λr2 hr2=>?_,vals0,Fs0,t4,t5,λi2 r2 hr2 j2 c2 hc2=>?_,λi2 r2 hr2 j2 c2 hc2=>?_⟩
   .rcases zaK hr2 with h5|h5<;>grind
   .unfold setAt at hr2;rw[zaE]at hr2
    by_cases e2:i.toNat=i2
    .grind
    grind
   .have other:∀{i2 j2:Nat} {r2:List C} {c2:C},rows[i2]?=some r2->r2[j2]?=some c2->¬(i2=i.toNat/\j2=j)->OT (w.setRow b (arr.toList.take (i'.toNat*k'+off)++[v]++arr.toList.drop (i'.toNat*k'+off+1)).toArray) G' (vals0 i2 j2) c2 (Fs0 i2 j2):=by
     intro i2 j2 r2 c2 hr2 hc2 hne;refine(t7 _ _ hr2 _ _ hc2).mono K.good K.cell (λ_ h=>h) λy hy=>setRow_other w b y _ ?_
     grind
    unfold setAt at hr2;rw[zaE]at hr2
    by_cases e2:i.toNat=i2
    .subst e2;rw[if_pos rfl,if_pos hir]at hr2;cases hr2;rw[hgr,zaE]at hc2
     by_cases e3':j=j2
     .subst e3';rw[if_pos rfl,if_pos hjr]at hc2;cases hc2;rw[e2];refine .ow (λi3 j3=>if i3=i'.toNat/\j3=off then v else vals i3 j3) hset (by grind) h3 h4 (by omega) (λr3 hr3=>?_) h7 (λi3 r3 hr3 j3 c3 hc3=>?_) (λi3 r3 hr3 j3 c3 hc3=>?_)
      .grind
      .rw [yaH arr [v] (i'.toNat*k'+off) 1 rfl hfit];rw[zaE]at hr3
       by_cases e4':i'.toNat=i3
       .subst e4';rw[if_pos rfl,if_pos hi]at hr3;cases hr3;rw[zaE]at hc3
        grind
       .rw[if_neg e4']at hr3;have hj:j3<k':=by grind
        rw[if_neg (show¬(i3=i'.toNat/\j3=off)fromλh=>e4' h.1.symm)];have hold:=h8 _ _ hr3 _ _ hc3;split
        .omega
        .rename_i hge;rw[if_neg ?_];exact hold;intro hlt2;rcases zbY e4' with h6'|h6'
         .have:(i'.toNat+1)*k'<=i3*k':=zaq _ h6'
          grind
         .have:(i3+1)*k'<=i'.toNat*k':=zaq _ h6'
          grind
      .rw[zaE]at hr3
       by_cases e4':i'.toNat=i3
       .subst e4';rw[if_pos rfl,if_pos hi]at hr3;cases hr3;rw[zaE]at hc3
        by_cases e5':off=j3
        .subst e5';rw[if_pos rfl,if_pos (by omega)]at hc3;cases hc3;rw[if_pos ⟨rfl,rfl⟩];exact hrd.mono K.good K.cell
        .rw[if_neg e5']at hc3;rw[if_neg (λh=>e5' h.2.symm)];exact(h9 _ _ hr _ _ hc3).mono K.good K.cell
       .rw[if_neg e4']at hr3;rw[if_neg (λh=>e4' h.1.symm)];exact(h9 _ _ hr3 _ _ hc3).mono K.good K.cell
     grind
    grind
theorem yKp(h:Repr g s a w blk)(hd:∀i,o.dst=some i->i<g.N){t:TypeId}{p q:Operand}{xp xq:X}(ho:o.op=.store t p q)(hn:ycM P t=some 1)
 (hp:cx p=some xp) (hq:cxt P t q=some xq) (hK:ylB s (s.ev xp) (s.ev xq) λs'=>K (s'.put o.dst .und)):iE P g o a w K:=by
 have ep:=h.ev hp;have eq:=h.evt hq;unfold ylB at hK;split at hK
 .rename_i id off hx;rw[hx]at ep;obtain⟨b,cells',hO',hb,e1⟩:=ep;split at hK
  .rename_i cells hO;obtain⟨hlt,hok,hK⟩:=hK;obtain⟨arr,e,h1,h2,h3⟩:=h.box hO hb;have hv:=(RVs.one1 eq hok);obtain⟨o1,o2⟩:=hv.one hok;obtain⟨o3,o4⟩:=ylk o2;refine yld h ho hn e1 (by grind) hb h1 o3 (by omega) (by grind) (by rw[hO];trivial) (by grind) ?_ hd hK;intro w' G' O' KK hh;refine⟨b,_,e,rfl,hh,by grind,λj x hj=>?_⟩;rw[yaH _ _ _ _ (by omega) (by omega),o4];rw[zaE]at hj
   by_cases e1:off=j
   .subst e1;rw[if_pos rfl,if_pos hlt]at hj;cases hj;exact⟨_,by simp,hv.keep KK⟩
   .rw[if_neg e1]at hj;obtain⟨u,hu,hr⟩:=h3 j x hj;refine⟨u,?_,hr.keep KK⟩
    grind
  grind
 .rename_i id k i off hx;rw[hx]at ep;obtain⟨b,rows',hO',hb,e1⟩:=ep;split at hK
  .rename_i k' rows hO;split at hK
   case h_2=>grind
   rename_i c hc;obtain⟨rfl,hlt,hoff,hK⟩:=hK;obtain⟨arr,e,h1,h2,h3,h4⟩:=h.row hO hb;have hv:=yFn eq hc;obtain⟨o3,o4⟩:=ylk hv.cells;have hr:=qP (d:=[]) hlt;have hl:=h3 _ (zac hr);have hle:(i.toNat+1)*k'<=rows.length*k':=zaq _ hlt;rw[zbB]at hle;have hfit:i.toNat*k'+off+1<=arr.size:=by omega
   refine yld h ho hn e1 (by grind) hb h1 o3 hfit (by rw[o4];simpa using hv.one) (by rw[hO];exact⟨_,rfl,by simp⟩) (by grind) ?_ hd hK;intro w' G' O' KK hh;refine .inr ⟨b,_,e,rfl,hh,by grind,?_,λi2 r j c2 hr2 hc2=>?_⟩
   .grind
   .rw [yaH _ _ _ _ (by omega) hfit,o4];rw[zaE]at hr2
    by_cases e2:i.toNat=i2
    .subst e2;rw[if_pos rfl,if_pos hlt]at hr2;cases hr2;rw[zaE]at hc2
     by_cases e3:off=j
     .subst e3;rw[if_pos rfl,if_pos (by omega)]at hc2;cases hc2;exact⟨_,by simp,hv.mono KK.good KK.cell⟩
     .rw[if_neg e3]at hc2;obtain⟨u,hu,hru⟩:=h4 _ _ j c2 hr hc2;refine⟨u,?_,hru.mono KK.good KK.cell⟩
      grind
    .rw[if_neg e2]at hr2;obtain⟨u,hu,hru⟩:=h4 i2 r j c2 hr2 hc2;have hj:j<k':=by grind
     refine⟨u,?_,hru.mono KK.good KK.cell⟩;split
     .omega
     .rename_i hge;rw[if_neg ?_];exact hu;intro hlt2;rcases zbY e2 with h6|h6
      .have:(i.toNat+1)*k'<=i2*k':=zaq _ h6
       grind
      .have:(i2+1)*k'<=i.toNat*k':=zaq _ h6
       grind
  .rename_i k' ver rows hO;split at hK
   case h_2=>grind
   rename_i c ids hpk;obtain⟨rfl,hlt,hoff,hnd,hid,hK⟩:=hK;obtain⟨arr,e,h1,h2,h3,h4⟩:=h.tree hO hb
   have hxc:(s.ev xq).lH=true:=by
    revert hpk;cases s.ev xq<;>simp[pk1,AV.lH]
   have hv:=RVs.one1 eq hxc;obtain⟨o1,o2⟩:=hv.one hxc;obtain⟨o3,o4⟩:=ylk o2;obtain⟨F,p1,p2⟩:=yGe h hv hpk
   obtain⟨L',hre⟩:=h.ywZ (off:=off) (n:=1) (vs:=[a.eval q]) (cs:=[c]) (Fs:=λj=>match j with|0=>F|_=>noF) hO hb h1 hlt (by omega) rfl rfl hid (λj c' hj=>by
    grind) (λj y hy=>by
    cases j with
    |zero=>grind
    |succ j=>exact hy.elim) (λj j' y hy hy'=>by
    cases j with
    |zero=>cases j' with
     |zero=>rfl
     |succ j'=>exact hy'.elim
    |succ j=>exact hy.elim)
   have hr:=qP (d:=[]) hlt;have hl:(rows.getD i.toNat []).length=k':=h3 _ (zac hr);have hle:(i.toNat+1)*k'<=rows.length*k':=zaq _ hlt;rw[zbB,zco]at hle;have hrun:=ycf (P:=P) hn h1 (v:=a.eval q) (off:=i.toNat*k'+off) o3 (by omega) (by grind);rw[o4]at hrun;refine⟨.skip,_,ysE ho (e1▸hrun),_,L',hK,?_⟩;rw[<-yvZ (rows.getD i.toNat []) off c (by omega)]at hre;exact hre.put (v:=undef) (x:=.und) hd (show undef=undef from rfl)
  grind
 .rename_i id ver i j k i' off hx;rw[hx]at ep;split at hK
  .rename_i k0 ver' rows hO;obtain⟨rfl,hK⟩:=hK;split at hK
   .rename_i k' rs hc;split at hK
    .rename_i c hcc;obtain⟨hk,hi,hoff,hK⟩:=hK;have hv:=yFn eq hcc;obtain⟨o3,o4⟩:=ylk hv.cells;obtain⟨b,arr,e,e1,h1,hfit,hre⟩:=h.yHn hO ep hc hk hi hoff hv;have hrun:=ycf (P:=P) hn h1 (v:=a.eval q) o3 hfit (by rw[o4];simpa using hv.one);rw[o4]at hrun;refine⟨.skip,_,ysE ho (e1▸hrun),_,blk,hK,?_⟩;exact hre.put (v:=undef) (x:=.und) hd (show undef=undef from rfl)
    grind
   grind
  grind
 grind
def yKh (h:Repr g s a w blk) (hd:∀i,o.dst=some i->i<g.N) {t:TypeId} {n:Nat} {p q:Operand} {xp xq:X} (ho:o.op=.store t p q) (hn:ycM P t=some n)
 (hp:cx p=some xp) (hq:cxt P t q=some xq) (hK:ynn n s (s.ev xp) (s.ev xq) λs'=>K (s'.put o.dst .und)):iE P g o a w K:=by
 have ep:=h.ev hp;have eq:=h.evt hq;unfold ynn at hK;split at hK
 .rename_i l hx;rw[hx]at eq;obtain⟨hln,hK⟩:=hK;obtain⟨hsz,hcs⟩:=yw7 eq;have hsz':(a.eval q).cells.size=n:=by omega
  have hlen:(a.eval q).cells.toList.length=n:=by simpa using hsz'
  split at hK
  .rename_i id off hx;rw[hx]at ep;obtain⟨b,cells',hO',hb,e1⟩:=ep;split at hK
   .rename_i cells hO;obtain⟨hle,hok,hK⟩:=hK;obtain⟨arr,e,h1,h2,h3⟩:=h.box hO hb;have hfit:off+n<=arr.size:=by omega
    refine yld h ho hn e1 (by rw[hO];simp) hb h1 hsz' hfit (yH3 hok (by omega) hcs) (by rw[hO];trivial) (by rw[hO];simp) ?_ hd hK;intro w' G' O' KK hh;refine⟨b,_,e,rfl,hh,by rw[mX _ _ _ _ hlen hfit];simp;omega,λj x hj=>?_⟩;rw[yaH _ _ _ _ hlen hfit];rw[ycB _ _ _ _ hln hle]at hj;split at hj
    .rename_i hlt;obtain⟨u,hu,hr⟩:=h3 j x hj;exact⟨u,by rw[if_pos hlt];exact hu,hr.keep KK⟩
    .rename_i hnlt;rw[if_neg hnlt];split at hj
     .rename_i hlt;obtain⟨u,hu,hr⟩:=hcs _ x hj;exact⟨u,by rw[if_pos hlt];exact hu,hr.keep KK⟩
     .rename_i hnlt2;obtain⟨u,hu,hr⟩:=h3 j x hj;exact⟨u,by rw[if_neg hnlt2];exact hu,hr.keep KK⟩
   .exact hK.elim
  .rename_i id k i off hx;rw[hx]at ep;obtain⟨b,rows',hO',hb,e1⟩:=ep;split at hK
   .rename_i k' rows hO;split at hK
    case h_2=>exact hK.elim
    rename_i cs hc;obtain⟨rfl,hlt,hoff,hK⟩:=hK;obtain⟨arr,e,h1,h2,h3,h4⟩:=h.row hO hb;obtain⟨hcl,hcg⟩:=yt6 hc
    have hcr:∀(j:Nat) (c:C),cs[j]?=some c->∃u,(a.eval q).cells.toList[j]?=some u/\Rd w (Good g s.yRU blk w) u c:=by
     intro j c hj;obtain⟨x,hx,hxc⟩:=hcg j c hj;obtain⟨u,hu,hr⟩:=hcs j x hx;exact⟨u,hu,yk8 hr hxc⟩
    have hr:=qP (d:=[]) hlt;have hl:(rows.getD i.toNat []).length=k':=h3 _ (zac hr);have hle:(i.toNat+1)*k'<=rows.length*k':=zaq _ hlt;rw[zbB,zco]at hle;have hfit:i.toNat*k'+off+n<=arr.size:=by omega
    refine yld h ho hn e1 (by rw[hO];simp) hb h1 hsz' hfit (yE4 (by omega) hcr) (by rw[hO];exact⟨_,rfl,by simp⟩) (by rw[hO];simp) ?_ hd hK;intro w' G' O' KK hh;refine .inr ⟨b,_,e,rfl,hh,by rw[mX _ _ _ _ hlen hfit];simpa using h2,?_,λi2 r j c2 hr2 hc2=>?_⟩
    .intro r hr2;rcases zaK hr2 with h5|h5
     .exact h3 r h5
     .rw[h5];simp only[zah,zaA,zaR,hl,hcl];omega
    .rw [yaH _ _ _ _ hlen hfit];rw[zaE]at hr2
     by_cases e2:i.toNat=i2
     .subst e2;rw[if_pos rfl,if_pos hlt]at hr2;cases hr2;rw[ycB _ _ _ _ (by omega) (by omega)]at hc2;split at hc2
      .rename_i h7;obtain⟨u,hu,hru⟩:=h4 _ _ j c2 hr hc2;exact⟨u,by rw[if_pos (by omega)];exact hu,hru.mono KK.good KK.cell⟩
      .rename_i h7;split at hc2
       .rename_i h8;obtain⟨u,hu,hru⟩:=hcr _ c2 hc2;refine⟨u,?_,hru.mono KK.good KK.cell⟩;rw[if_neg (by omega),if_pos (by omega),<-hu]
        congr 1;omega
       .rename_i h8;obtain⟨u,hu,hru⟩:=h4 _ _ j c2 hr hc2;exact⟨u,by rw[if_neg (by omega),if_neg (by omega)];exact hu,hru.mono KK.good KK.cell⟩
     .rw[if_neg e2]at hr2;obtain⟨u,hu,hru⟩:=h4 i2 r j c2 hr2 hc2;have hj:j<k':=by rw[<-h3 r (zac hr2)];exact(zaa.1 hc2).1
      refine⟨u,?_,hru.mono KK.good KK.cell⟩;split
      .exact hu
      .rename_i hge;rw[if_neg ?_];exact hu;intro hlt2;rcases zbY e2 with h6|h6
       .have:(i.toNat+1)*k'<=i2*k':=zaq _ h6;rw[zbB,zco]at this;omega
       .have:(i2+1)*k'<=i.toNat*k':=zaq _ h6;rw[zbB,zco]at this;omega
   .rename_i k' ver rows hO;split at hK
    case h_2=>exact hK.elim
    rename_i cs ids hpk;obtain⟨rfl,hlt,hoff,hnd,hid,hK⟩:=hK;obtain⟨arr,e,h1,h2,h3,h4⟩:=h.tree hO hb;obtain⟨Fs,p1,p2,p3,p4⟩:=ys4 h hpk hcs hnd;obtain⟨L',hre⟩:=h.ywZ (off:=off) (n:=n) (vs:=(a.eval q).cells.toList) (cs:=cs) (Fs:=Fs) hO hb h1 hlt (by omega) hlen (by omega) hid p2 p3 p4;have hr:=qP (d:=[]) hlt;have hl:(rows.getD i.toNat []).length=k':=h3 _ (zac hr);have hle:(i.toNat+1)*k'<=rows.length*k':=zaq _ hlt;rw[zbB,zco]at hle
    have hone:∀u∈(a.eval q).cells.toList,u.oneCell'=true:=by
     intro u hu;obtain⟨j,hj⟩:=zat hu;have hjl:j<cs.length:=by rw[p1,hln,<-hlen];exact(zaa.1 hj).1
     obtain⟨u',hu',hot⟩:=p2 j _ (zab hjl);rw[hj]at hu';cases hu';exact hot.one
    have hrun:=ycf (P:=P) hn h1 (v:=a.eval q) (off:=i.toNat*k'+off) hsz' (by omega) hone;refine⟨.skip,_,ysE ho (e1▸hrun),_,L',hK,?_⟩;exact hre.put (v:=undef) (x:=.und) hd (show undef=undef from rfl)
   .exact hK.elim
  .exact hK.elim
 .exact hK.elim
end
end Go.Proofs.YtdadkiofenhnbaaGreat
