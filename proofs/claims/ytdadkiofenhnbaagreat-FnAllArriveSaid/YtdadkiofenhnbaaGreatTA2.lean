/- The machine of the proof: an abstract run of the code, proved sound. -/
import Derived.Test.YtdadkiofenhnbaaGreatTA1
import Derived.Laws.BytesString
import Derived.Orders
set_option linter.all false
namespace Go.Proofs.YtdadkiofenhnbaaGreat
open Go.RowKit
section
variable {P:Program} {g:ySm} {o:Oper} {s:St} {a:Act} {w:World} {blk:Lay} {K:St->Prop}
def yaB(e:TypeId)(cells:Array Value)(w:World):(newRow e cells).run P w=.ok ⟨w.heap.size,0,none⟩ (w.alloc (.cells cells e)):=by
 rfl
theorem yeF(h:Repr g s a w blk)(hd:∀i,o.dst=some i->i<g.N){o':Obj}{V:Nat->AV}{v:Value}{arr:Array Value}{e:TypeId}{w1:World}
 (hr:(execOp a.eval o).run P w1=.ok (.value v) (w.alloc (.cells arr e)))
 (ok:∀w' G' O' blk',Keeps w w' (Good g s.yRU blk w) G' s.yRU O' blk blk'->w'.heap[w.heap.size]?=some (.cells arr e (0,0))->jU w' G' O' blk' noF (some w.heap.size) o')
 (hv:∀(d:Nat) G' (O':Nat->Obj) (blk':Nat->Option Nat),O' d=o'->blk' d=some w.heap.size->(w.alloc (.cells arr e)).heap[w.heap.size]?=some (.cells arr e (0,0))->RV (w.alloc (.cells arr e)) G' O' blk' v (V d))
 (hK:newP s o.dst o' V K):iE P g o a w1 K:=by
 unfold newP at hK;split at hK
 .rename_i d hdst;obtain⟨h0,hK⟩:=hK;have:=h.alloc (d:=d) (yaa h0) ok;refine⟨_,_,hr,_,blk.upd d (some w.heap.size) noF,hK,?_⟩;have hput:=this.put (d:=some d) (v:=v) (x:=V d) (by grind) (hv d _ _ _ (by simp[upd]) (by grind [Lay.eH]) (heap_alloc_new w _));rw[hdst];exact hput
 grind
theorem yLo(h:Repr g s a w blk)(hd:∀i,o.dst=some i->i<g.N){t:TypeId}{n:Nat}{p:Operand}{xp:X}(ho:o.op=.box t p)
 (hp:cx p=some xp) (hK:yIq n s o.dst (s.ev xp) K):iE P g o a w K:=by
 have ep:=h.ev hp;obtain⟨_,hok,hK⟩:=hK;obtain⟨h1,h2⟩:=yg5 ep hok;refine yeF (v:=.pointer (some ⟨w.heap.size,0,none⟩)) (arr:=(a.eval p).cells) (e:=t) h hd ?_ ?_ ?_ hK
 .simp_all [yaB,execOp,Instr.box,newVar]
 .intro w' G' O' blk' KK hh;exact⟨_,_,_,rfl,hh,h1,λj x hx=>let⟨u,_,hr⟩:=h2 j x hx;⟨u,by grind,hr.keep KK⟩⟩
 .intro d G' O' blk' hO hb _;exact⟨_,_,hO,hb,rfl⟩
theorem yht:∀{l:List Value} {ks:List Nat} {zs:List AV},ybc l ks=some zs->zs.length=l.length/\∀(j:Nat) (x:AV),zs[j]?=some x->∃v k,l[j]?=some v/\yob k v=some x
 |[],[],cs,h=>by cases h;simp
 | x::l,k::ks,cs,h=>by
  simp[ybc]at h;split at h
  .rename_i c1 cs1 h1 h2;obtain⟨hl,hg⟩:=yht h2
   grind
  grind
 |[],_::_,cs,h=>by grind [ybc]
 |_::_,[],cs,h=>by grind [ybc]
theorem yzB{G:Nat->Prop}{O:Nat->Obj}{bl:Nat->Option Nat}{v:Value}{x:AV}(h:yk0 v=some x):RV1 w G O bl v x:=by
 unfold yk0 at h;split at h
 .split at h
  .cases h;exact Rd.i ‹_›
  grind
 .split at h
  .rename_i n hn;cases h;have:(Value.int .u8 n)=.int .u8 (n.toNat:Int):=by grind
   rw[this];exact .u (by omega)
  grind
 .cases h;exact Rd.b
 .split at h
  .cases h;exact Rd.s ‹_›
  grind
 .cases h;rfl
 .cases h;trivial
 grind
theorem ynH{G:Nat->Prop}{O:Nat->Obj}{bl:Nat->Option Nat}{k:Nat}{v:Value}{x:AV}(h:yob k v=some x):RV1 w G O bl v x:=by
 unfold yob at h;split at h
 .cases h;rfl
 .exact yzB h
theorem yGH(h:Repr g s a w blk)(hd:∀i,o.dst=some i->i<g.N){t:TypeId}{i:TypeInfo}{z:Value}{zs:List AV}(ho:o.op=.alloc t)(hi:P.info? t=some i)(hz:i.zero=some z)
 {ks:List Nat} (hzs:ybc z.cells.toList ks=some zs) (hK:newP s o.dst (.box zs) (λd=>.box d 0) K):iE P g o a w K:=by
 obtain⟨h1,h2⟩:=yht hzs;refine yeF (v:=.pointer (some ⟨w.heap.size,0,none⟩)) (arr:=z.cells) (e:=t) h hd ?_ ?_ ?_ hK
 .simp_all [yaB,execOp,Instr.alloc,zeroValue,typeInfo,newVar]
 .intro w' G' O' blk' KK hh;exact⟨_,_,_,rfl,hh,by grind,λj x hx=>let⟨u,k,_,hr⟩:=h2 j x hx;⟨u,by grind,ynH hr⟩⟩
 .intro d G' O' blk' hO hb _;exact⟨_,_,hO,hb,rfl⟩
theorem ypx{G:Nat->Prop}{v:Value}{c:C}(h:yfG v c=true):Rd w G v c:=by
 unfold yfG at h;split at h
 .simp at h;obtain⟨rfl,rfl⟩:=h;exact .i ⟨by omega,by omega⟩
 .simp at h;obtain⟨rfl,rfl⟩:=h;exact Rd.u (n:=0) (by decide)
 .simp at h;subst h;exact .b
 .simp at h;obtain⟨rfl,rfl⟩:=h;exact .s (by simp)
 .simp at h;subst h;exact .sl (λ_ _=>default) rfl (by simp_all) (by omega) (by simp) (by simp) (by simp) (by simp)
 grind
theorem yeE:∀{l:List Value} {cs:List C},yfm l cs=true->cs.length=l.length/\∀(j:Nat) (c:C),cs[j]?=some c->∃v,l[j]?=some v/\yfG v c=true
 |[],[],h=>⟨rfl,(by grind)⟩
 |x::l,c::cs,h=>by
  simp[yfm,zad]at h;obtain⟨hl,hg⟩:=yeE h.2
  grind
theorem yFq{v:Value}{k:Nat}{c:C}(h:yGw v k=some c):yfG v c=true:=by
 unfold yGw at h
 grind [yfG]
theorem ypo:∀{l:List Value} {ks:List Nat} {cs:List C},ypL l ks=some cs->yfm l cs=true
 |[],[],cs,h=>by cases h;rfl
 | v::l,k::ks,cs,h=>by
  simp[ypL]at h;split at h
  .rename_i c1 cs1 h1 h2;cases h;simp[yfm,yFq h1,ypo h2]
  grind
theorem flat_get{α:Type}{k n:Nat}{z:List α}(hz:z.length=k){i j:Nat}{c:α}(hi:i<n)(hj:z[j]?=some c):(List.replicate n z).flatten[i*k+j]?=some c:=by
 induction n generalizing i with
 |zero=>omega
 | succ n ih=>
  cases i with
  |zero=>grind
  |succ i=>
   grind
theorem yDR(h:Repr g s a w blk)(hd:∀i,o.dst=some i->i<g.N){t:TypeId}{i:TypeInfo}{z:Value}{k n:Nat}{cs:List C}(ho:o.op=.alloc t)(hi:P.info? t=some i)(hz:i.zero=some z)
 (hzs:yfm z.cells.toList (List.replicate n cs).flatten=true) (hk:cs.length=k) (hK:newP s o.dst (.row k (List.replicate n cs)) (λd=>.row d k 0 0) K):iE P g o a w K:=by
 obtain⟨h1,h2⟩:=yeE hzs;refine yeF (v:=.pointer (some ⟨w.heap.size,0,none⟩)) (arr:=z.cells) (e:=t) h hd ?_ ?_ ?_ hK
 .simp_all [yaB,execOp,Instr.alloc,zeroValue,typeInfo,newVar]
 .intro w' G' O' blk' KK hh;refine .inr ⟨_,_,_,rfl,hh,?_,by simp_all,λi2 r j c hr hc=>?_⟩
  .simp_all
  .have hi2:i2<n:=by grind
   rw[zbO,if_pos hi2]at hr;cases hr;obtain⟨u,hu,hr⟩:=h2 _ c (flat_get hk hi2 hc)
   grind [ypx]
 .intro d G' O' blk' hO hb _;exact⟨_,_,by rw[hO];rfl,hb,by simp⟩
theorem ymC{z:Array Value}{k n:Nat}(hz:z.size=k){i j:Nat}(hi:i<n)(hj:j<k):(madeCells z (n*k))[i*k+j]?=z[j]?:=by
 have h1:(i+1)*k<=n*k:=zaq _ hi
 grind [Nat.add_mul_mod_self_right,Nat.mod_eq_of_lt,madeCells]
theorem yK4(h:Repr g s a w blk)(hd:∀i,o.dst=some i->i<g.N){t e:TypeId}{i:TypeInfo}{z:Value}{cs:List C}{p q:Operand}{xp xq:X}(ho:o.op=.makeSlice t p q)(ht:P.underlying t=some (.slice e))(hi:P.info? e=some i)(hz:i.zero=some z)
 (hzs:yfm z.cells.toList cs=true) (hsz:z.cells.size=i.size) (hp:cx p=some xp) (hq:cx q=some xq) (hK:yvA i.size i.bytes cs s o.dst (s.ev xp) (s.ev xq) K):iE P g o a w K:=by
 have ep:=h.ev hp;have eq:=h.ev hq;revert hK ep eq;generalize s.ev _=vp;generalize s.ev _=vq;intro hK ep eq;unfold yvA at hK;split at hK
 .rename_i n m;obtain⟨h0,h1,h2,hK⟩:=hK;obtain⟨e1,_⟩:=ep.int;obtain⟨e2,i2⟩:=eq.int;have hm:=i2.2;have hr:=run_make (P:=P) w t e i z ht hi hz .i64 .i64 n m h0 h1 h2 hm;obtain⟨z1,z2⟩:=yeE hzs;rcases hK with hK|hK
  case inr=>
   split at hK
   case h_2=>grind
   refine yeF h hd (v:=.slice (some ⟨w.heap.size,0,none⟩) n.toNat m.toNat) (arr:=madeCells z.cells (m.toNat*i.size)) (e:=e) (by simp_all [execOp]) ?_ ?_ hK
   .intro w' G' O' blk' KK hh;refine .inr ⟨_,_,_,rfl,hh,?_,by simp_all,λ_ _=>.slice none 0 0,λ_ _=>noF,λ_ _ _ h=>h.elim,λ_ _ _ _ _ h=>h.elim,λi2 r hr j c hc=>?_,λi2 r hr j c hc=>?_⟩
    .grind [size_madeCells]
    .have hi2:i2<n.toNat:=by grind
     have hj:j<1:=by
      grind
     have hj0:j=0:=by omega
     obtain⟨u,hu,hru⟩:=z2 0 _ rfl
     have hu0:u=.slice none 0 0:=by
      unfold yfG at hru
      grind
     rw[ymC hsz (by omega) (by grind)];grind
    .have hi2:i2<n.toNat:=by grind
     rw[zbO,if_pos hi2]at hr;cases hr;have hj:j<1:=(zaa.1 hc).1;have hj0:j=0:=by omega
     subst hj0;cases hc;exact .ow0
   .intro d G' O' blk' hO hb hh;exact⟨_,by rw[hO];rfl,by simp,.inr ⟨_,_,_,_,hb,rfl,by omega,by grind [maxLen],hh,by grind [size_madeCells]⟩⟩
  refine yeF h hd (v:=.slice (some ⟨w.heap.size,0,none⟩) n.toNat m.toNat) (arr:=madeCells z.cells (m.toNat*i.size)) (e:=e) (by simp_all [execOp]) ?_ ?_ hK
  .intro w' G' O' blk' KK hh;refine .inr ⟨_,_,_,rfl,hh,?_,by grind,λi2 r j c hr hc=>?_⟩
   .rw[size_madeCells,zbW];exact zaq _ (by omega)
   grind [ymC,ypx]
  .intro d G' O' blk' hO hb hh;exact⟨_,by rw[hO];rfl,by simp,.inr ⟨_,_,_,_,hb,rfl,by omega,by grind [maxLen],hh,by grind [size_madeCells]⟩⟩
 grind
theorem yIY(h:Repr g s a w blk)(hd:∀i,o.dst=some i->i<g.N){f:Int->Int->Int}{op:Value->Value->Sem Value}{l:List Operand}{xs:List X}(hop:∀m n,op (.int .i64 m) (.int .i64 n)=pure (.int .i64 (f m n)))
 (hin:∀m n,inI m->inI n->inI (f m n))
 (hr:∀v vs,l.map a.eval=v::vs->∀r,(vs.foldlM op v).run P w=.ok r w->(execOp a.eval o).run P w=.ok (.value r) w)
 (hx:cxs l=some xs) (hK:mmP f (xs.map s.ev) λv=>K (s.put o.dst v)):iE P g o a w K:=by
 obtain⟨hl,hg⟩:=h.evs hx;revert hK hl hg;generalize xs.map s.ev=avs;generalize hvs:l.map a.eval=vs;intro hK hl hg
 have key:∀(avs:List AV) (ns:List Int),intsOf avs=some ns->∀vs:List Value,vs.length=avs.length->(∀(j:Nat) (x:AV),avs[j]?=some x->∃u,vs[j]?=some u/\RVs g s w blk u x)->
  vs=ns.map (λn=>Value.int .i64 n)/\∀n∈ns,inI n:=by
  intro avs
  induction avs with
  |nil=>intro ns hns vs hl _;cases hns;grind
  | cons x avs ih=>
   intro ns hns vs hl hg;cases vs with
   |nil=>grind
   | cons v vs=>
    obtain⟨u,hu,hru⟩:=hg 0 x rfl;simp only[zbP,Option.some.injEq]at hu;subst hu;cases x with
    | c y=>cases y with
     |i n=>
      simp only[intsOf,zam]at hns;obtain⟨ns',h1,rfl⟩:=hns;obtain⟨h2,h3⟩:=ih ns' h1 vs (by grind) (λj x hj=>by simpa using hg (j+1) x (by grind));obtain⟨e,hb⟩:=hru.int
      grind
     |_=>grind [intsOf]
    |_=>grind [intsOf]
 unfold mmP at hK;split at hK
 .rename_i n r hns;obtain⟨hvs',hb⟩:=key _ _ hns vs hl hg
  have fold:∀(r:List Int) (n:Int),inI n->(∀m∈r,inI m)->((r.map (λn=>Value.int .i64 n)).foldlM op (.int .i64 n)).run P w=.ok (.int .i64 (r.foldl f n)) w/\inI (r.foldl f n):=by
   intro r
   induction r with
   |nil=>simp
   |cons m r ih=>
    simp_all
  have:=fold r n (hb n (by simp)) (λm hm=>hb m (by grind));exact iE.val h hd (hr _ _ (by grind) _ this.1) (.mkI this.2) hK
 grind
theorem mn_ok(h:Repr g s a w blk)(hd:∀i,o.dst=some i->i<g.N){l:Array Operand}{ts:Array TypeId}{xs:List X}(ho:o.op=.call {callee:=.builtin .min,args:=l,argTypes:=ts})
 (hx:cxs l.toList=some xs) (hK:mmP (λx y=>if y<x then y else x) (xs.map s.ev) λv=>K (s.put o.dst v)):iE P g o a w K:=by
 refine yIY h hd (op:=Builtin.min2) (λm n=>rfl) (λm n hm hn=>by grind) (λv vs hv r hr=>?_) hx hK
 simp_all [execOp,resolve,invoke,builtin,Builtin.min_]
theorem mx_ok(h:Repr g s a w blk)(hd:∀i,o.dst=some i->i<g.N){l:Array Operand}{ts:Array TypeId}{xs:List X}(ho:o.op=.call {callee:=.builtin .max,args:=l,argTypes:=ts})
 (hx:cxs l.toList=some xs) (hK:mmP (λx y=>if x<y then y else x) (xs.map s.ev) λv=>K (s.put o.dst v)):iE P g o a w K:=by
 refine yIY h hd (op:=Builtin.max2) (λm n=>rfl) (λm n hm hn=>by grind) (λv vs hv r hr=>?_) hx hK
 simp_all [execOp,resolve,invoke,builtin,Builtin.max_]
theorem yn5{f:Nat}{fn:Func}(hf:P.funcs[f]?=some fn)(hb:fn.body.isSome=true)(hn:(fn.name != "runtime.NumGoroutine")=true)(args:Array Value)(w:World):
 (callFunc f args).run P w=.ok (.enter f args) w:=by
 have h1:fn.name≠ "runtime.NumGoroutine":=by grind
 have h2:fn.body≠none:=by grind
 simp_all [callFunc]
theorem yH5(h:Repr g s a w blk)(hd:∀i,o.dst=some i->i<g.N){f:Nat}{fn:Func}{l:Array Operand}{ts:Array TypeId}{xs:List X}(ho:o.op=.call {callee:=.value (.func f),args:=l,argTypes:=ts})
 (hf:P.funcs[f]?=some fn) (hb:fn.body.isSome=true) (hn:(fn.name != "runtime.NumGoroutine")=true)
 (hx:yBA P ts.toList l.toList=some xs\/cxs l.toList=some xs) (hK:yat P f (xs.map s.ev) o.dst s K):iE P g o a w K:=by
 obtain⟨hl,hg⟩:(l.toList.map a.eval).length=(xs.map s.ev).length/\∀(j:Nat) (x:AV),(xs.map s.ev)[j]?=some x->∃u,(l.toList.map a.eval)[j]?=some u/\RVs g s w blk u x:=by
  rcases hx with hx|hx
  .exact h.evts hx
  .exact h.evs hx
 have:=hK g a w blk h hd (l.map a.eval) (by grind) (λj x hj=>by
  obtain⟨u,hu,hr⟩:=hg j x hj;exact⟨u,by grind,hr⟩)
 refine⟨.enter f (l.map a.eval),w,?_,this⟩;have e1:a.eval (.func f)=.func (.func f) #[] #[]:=rfl
 grind [yn5,execOp,resolve,Deferred.ofValue,invoke]
theorem yGK(h:Repr g s a w blk)(hd:∀i,o.dst=some i->i<g.N){q:Operand}{xq:X}{l:Array Operand}{ts:Array TypeId}{xs:List X}(ho:o.op=.call {callee:=.value q,args:=l,argTypes:=ts})
 (hq:cx q=some xq) (hx:cxs l.toList=some xs) (hK:ypK P (s.ev xq) (xs.map s.ev) o.dst s K):iE P g o a w K:=by
 obtain⟨hl,hg⟩:=h.evs hx;have eq:=h.ev hq;unfold ypK at hK;split at hK
 .rename_i f cs he;rw[he]at eq;obtain⟨⟨fn,hf,hb,hn⟩,hK⟩:=hK;obtain⟨arr,hfv,hs,hc⟩:=eq
  have:=hK g a w blk h hd (l.map a.eval++arr) (by grind) (λj x hj=>by
   by_cases hlt:j<(xs.map s.ev).length
   .rw[zaX hlt]at hj;obtain⟨u,hu,hr⟩:=hg j x hj;refine⟨u,?_,hr⟩
    grind
   .rw[zaz (by omega)]at hj;obtain⟨u,hu,hr⟩:=hc _ x hj;refine⟨u,?_,RVs.of1 hr⟩
    grind)
  refine⟨.enter f (l.map a.eval++arr),w,?_,this⟩
  grind [yn5,execOp,resolve,Deferred.ofValue,invoke]
 grind
theorem yDo:∀{l:List (Int×Int)} {j i:Nat} {p:Int×Int},l[i]?=some p->(mpL j l)[i]?=some ⟨.int .i64 p.1,.int .i64 p.2,j+i⟩
 |[],j,i,p,h=>by grind
 |q::l,j,0,p,h=>by simp at h;subst h;rfl
 |q::l,j,i+1,p,h=>by
  have:=yDo (l:=l) (j:=j+1) (i:=i) (by simpa using h)
  grind [mpL]
theorem yDu:∀(l:List (Int×Int)) (j:Nat) (p:Int×Int),mpL j (l++[p])=mpL j l++[⟨.int .i64 p.1,.int .i64 p.2,j+l.length⟩]
 |[],_,_=>rfl
 |q::l,j,p=>by
  have:=yDu l (j+1) p
  grind [mpL]
theorem yDs:∀(l:List (Int×Int)) (j i:Nat) (v:Int),mpL j (yiC l i v)=(mpL j l).modify i λe=>{e with val:=.int .i64 v}
 |[],j,i,v=>by simp[yiC,mpL]
 |q::l,j,0,v=>by rfl
 |q::l,j,i+1,v=>by
  have:=yDs l (j+1) i v
  grind [yiC,mpL]
theorem yuU(n:Int):∀(l:List (Int×Int)) (j j0:Nat),Instr.findNow (.int .i64) (.int .i64 n) (mpL j0 l) j=some ((yft n j l).map λp=>(p.1,.int .i64 p.2))
 |[],_,_=>rfl
 | q::l,j,j0=>by
  simp only[mpL,Instr.findNow,Instr.sameNow,if_true,yft]
  by_cases e:n=q.1
  .grind
  .have e2:(n==q.1)=false:=by grind
   simp only[e2,if_neg e];exact yuU n l (j+1) (j0+1)
theorem ynf(n:Int):∀{l:List (Int×Int)} {j:Nat} {p:Nat×Int},yft n j l=some p->j<=p.1/\l[p.1-j]?=some (n,p.2)
 |[],j,p,h=>by cases h
 | q::l,j,p,h=>by
  simp only[yft]at h;split at h
  .grind
  .obtain⟨h1,h2⟩:=ynf n h
   grind
theorem Repr.map(h:Repr g s a w blk){id b:Nat}{kvs:List (Int×Int)}(hO:s.ob id=.mp kvs)(hb:blk id=some b):
 w.heap[b]?=some (.map (mpL 0 kvs).toArray kvs.length)/\∀p,p∈kvs->inI p.1/\inI p.2:=by
 have h0:=h.yRU id;rw[show s.yRU id=_ from hO]at h0;obtain⟨g1,e1,e2,e3⟩:=h0
 grind
theorem Repr.yHB(h:Repr g s a w blk){id b:Nat}{kvs kvs':List (Int×Int)}(hO:s.ob id=.mp kvs)(hb:blk id=some b)(hin:∀p,p∈kvs'->inI p.1/\inI p.2):
 Repr g (s.iG id (.mp kvs')) a {w with heap:=w.heap.setIfInBounds b (.map (mpL 0 kvs').toArray kvs'.length)} blk:=by
 obtain⟨hm,_⟩:=h.map hO hb;have hO':s.yRU id=.mp kvs:=hO;have hlive:s.yRU id≠.none:=by grind
 have hlt:=yxN hm;have hup:∀i,(s.iG id (.mp kvs')).yRU i=if i=id then .mp kvs' else s.yRU i:=λi=>rfl
 have hoff:Off (λq=>q=b) w {w with heap:=w.heap.setIfInBounds b (.map (mpL 0 kvs').toArray kvs'.length)}:=by
  refine⟨rfl,rfl,rfl,by simp,λk _ hk=>?_,λk arr e hk hc=>?_⟩<;>grind
 have key:=(h.yq6 [] (λi=>i=id) (objs':=(s.iG id (.mp kvs')).yRU) (L':=blk) (X:=λq=>q=b) hoff
  (λq hq=>⟨id,.inl rfl,hlive,.inl (by grind)⟩)
  (λi hi=>⟨by grind [Obj.yTq],rfl,rfl⟩)
  (λi b' hi _ hf=>.inl ⟨i,.inl hi,by grind,hf⟩)
  (λi j b' hi hj _ _ _ _=>hi.trans hj.symm)
  (λi b' hi _ hr=>h.apart i b' (by grind) hr)
  (λi hi _ _=>by
   subst hi;rw[hup,if_pos rfl,hO'];exact⟨trivial,rfl⟩)
  (λi k v' rows hi _ hk=>by
   grind)
  (λG' K hN hM i hi=>by
   subst hi;rw[hup,if_pos rfl];refine⟨b,hb,?_,hin⟩
   grind)).1
 exact key
theorem Repr.allocMap(h:Repr g s a w blk){d:Nat}(hd:s.ob d=.none):
 Repr g ⟨s.env,upd d (.mp []) s.yRU⟩ a (w.alloc (.map #[] 0)) (blk.upd d (some w.heap.size) noF):=by
 have hO:∀i,upd d (.mp []) s.yRU i=if i=d then .mp []else s.yRU i:=λi=>rfl
 have hd':s.yRU d=.none:=hd;have hoff:Off noF w (w.alloc (.map #[] 0)):=(Off.refl noF w).alloc _;refine h.turn [] (λi=>i=d) hoff (λq hq=>hq.elim) (λi hi=>?_) (λi b hi _ hf=>?_) (λi j b hi hj _ _ _ _=>hi.trans hj.symm) (λi b hi _ hr=>?_) (λi hi _ hl=>?_) (λi k v rows hi _ hk=>?_) (λG' K i hi=>?_)
 .grind [Obj.yTq,Lay.eH,Lay.oN]
 .subst hi;rw[Lay.ypg,if_pos rfl]at hf;rcases hf with hf|hf
  .simp_all
  .exact hf.elim
 .subst hi;rw[Lay.oN,if_pos rfl];exact id
 .grind
 .grind
 .subst hi;rw[hO,if_pos rfl,Lay.oN,if_pos rfl,Lay.eH,if_pos rfl];exact⟨_,rfl,heap_alloc_new w _,λp hp=>by grind⟩
theorem yMo(h:Repr g s a w blk)(hd:∀i,o.dst=some i->i<g.N){t:TypeId}(ho:o.op=.makeMap t none)(hK:newP s o.dst (.mp []) (λd=>.mpr d) K):iE P g o a w K:=by
 unfold newP at hK;split at hK
 .rename_i d hdst;obtain⟨h0,hK⟩:=hK;have:=h.allocMap (d:=d) (yaa h0);refine⟨.value (.map (some w.heap.size)),w.alloc (.map #[] 0),?_,_,blk.upd d (some w.heap.size) noF,hK,?_⟩
  .simp_all [execOp,Instr.makeMap]
  .have hput:=this.put (d:=some d) (v:=.map (some w.heap.size)) (x:=.mpr d) (by grind) ⟨w.heap.size,[],by simp[upd],by grind [Lay.eH],rfl⟩;rw[hdst];exact hput
 grind
theorem ysD{t:TypeId}(h:yp2 P t=true):∃k e,P.underlying t=some (.map k e)/\P.underlying k=some (.int .i64)/\∀w:World,(zeroValue e).run P w=.ok (.int .i64 0) w:=by
 unfold yp2 at h;split at h
 .rename_i k e ht;rw[zad]at h;obtain⟨h1,h2⟩:=h;refine⟨k,e,ht,?_,λw=>?_⟩
  .grind
  .split at h2
   .rename_i i hi;split at h2<;>simp_all [zeroValue,typeInfo]
   grind
 grind
theorem yKL(h:Repr g s a w blk)(hd:∀i,o.dst=some i->i<g.N){t:TypeId}{p q r:Operand}{xp xq xr:X}(ho:o.op=.mapUpdate t p q r)(ht:yp2 P t=true)(hp:cx p=some xp)(hq:cx q=some xq)(hr:cx r=some xr)
 (hK:yID s (s.ev xp) (s.ev xq) (s.ev xr) λs'=>K (s'.put o.dst .und)):iE P g o a w K:=by
 have ep:=h.ev hp;have eq:=h.ev hq;have er:=h.ev hr;obtain⟨kt,et,ht1,ht2,ht3⟩:=ysD ht;unfold yID at hK;split at hK
 case h_2=>grind
 rename_i id n v hx hy hz;rw[hx]at ep;rw[hy]at eq;rw[hz]at er;obtain⟨b,kvs',hO',hb,e1⟩:=ep;obtain⟨e2,hn⟩:=eq.int;obtain⟨e3,hv⟩:=er.int;split at hK
 case h_2=>grind
 rename_i kvs hO;obtain⟨hm,hin⟩:=h.map hO hb;have hfind:=MapKept.run_findKey (w:=w) ht2 (yuU n kvs 0 0);have hchk:=MapKept.run_checkKey (P:=P) (w:=w) (k:=.int .i64 n) ht2 rfl false 9999;cases hf:yft n 0 kvs with
 | some r=>
  obtain⟨j1,j2⟩:=ynf n hf;rw[zek]at j2;have j3:=yDo (j:=0) j2;rw[zbp]at j3;have hkt:=MapKept.run_keyThatStays (P:=P) (w:=w) (d:=.int .i64) (k:=.int .i64 n) rfl;have he:yu0 n v kvs=yiC kvs r.1 v:=by grind [yu0]
  rw[he]at hK;have hk2:(yiC kvs r.1 v).length=kvs.length:=by simp[yiC]
  have hmod:(mpL 0 kvs).modify r.1 (λe=>{e with key:=.int .i64 n,val:=.int .i64 v})=mpL 0 (yiC kvs r.1 v):=by
   rw[yDs];apply zbU
   grind
  have hset:=MapKept.run_setObj_map (P:=P) (.map (mpL 0 (yiC kvs r.1 v)).toArray kvs.length) hm
  have hr2:=h.yHB (kvs':=yiC kvs r.1 v) hO hb (λp hp=>by
   grind [List.getElem?_of_mem,yiC])
  rw[hk2]at hr2;rw[hf]at hfind;simp only[zaT]at hfind;refine⟨.skip,_,?_,_,blk,hK,hr2.put (v:=undef) (x:=.und) hd (show undef=undef from rfl)⟩;simp[execOp,ho,e1,e2,e3,Instr.mapUpdate,run_underlying ht1,MapKept.run_getObj_map hm,hchk,hfind,j3,hkt,hmod,hset,Result.andThen]
 | none=>
  have he:yu0 n v kvs=kvs++[(n,v)]:=by grind [yu0]
  rw[he]at hK;rw[hf]at hfind;simp only[Option.map_none]at hfind;have hset:=MapKept.run_setObj_map (P:=P) (.map (mpL 0 (kvs++[(n,v)])).toArray (kvs.length+1)) hm
  have hpush:mpL 0 kvs++[⟨.int .i64 n,.int .i64 v,kvs.length⟩]=mpL 0 (kvs++[(n,v)]):=by
   grind [yDu]
  have hr2:=h.yHB (kvs':=kvs++[(n,v)]) hO hb (λp hp=>by
   grind)
  rw[zah]at hr2;refine⟨.skip,_,?_,_,blk,hK,hr2.put (v:=undef) (x:=.und) hd (show undef=undef from rfl)⟩;simp[execOp,ho,e1,e2,e3,Instr.mapUpdate,run_underlying ht1,MapKept.run_getObj_map hm,hchk,hfind,hpush,hset,Result.andThen]
theorem yEC{fn:Func}{n:Nat}(h:yHO fn=some n):fn.body.isNone=true∧(fn.name== "runtime.NumGoroutine")=false∧Extern.findNext fn=none∧Extern.find fn=some (if n=0 then Extern.BytealgCount.count else Extern.BytealgIndexByte.indexByte):=by
 unfold yHO at h;split at h
 .rename_i hb;rw[zad,beq_iff_eq]at hb;obtain⟨hb,ho⟩:=hb;split at h
  .rename_i hn;rw[beq_iff_eq]at hn;cases h;refine⟨hb,by grind,?_,?_⟩
   .unfold Extern.findNext;rw[hn,ho];kernel_rfl
   .unfold Extern.find;rw[hn,ho];kernel_rfl
  .split at h
   .rename_i hn;rw[beq_iff_eq]at hn;cases h;refine⟨hb,by grind,?_,?_⟩
    .unfold Extern.findNext;rw[hn,ho];kernel_rfl
    .unfold Extern.find;rw[hn,ho];kernel_rfl
   grind
 grind
theorem yyj(l:List UInt8)(c:UInt8):Lib.indexByte l c<=l.length:=by
 induction l with
 |nil=>simp[Lib.indexByte]
 |cons b l ih=>
  grind [Lib.indexByte]
theorem yJ0(h:Repr g s a w blk)(hd:∀i,o.dst=some i->i<g.N){f n:Nat}{fn:Func}{p q:Operand}{ts:Array TypeId}{xp xq:X}(ho:o.op=.call {callee:=.value (.func f),args:=#[p,q],argTypes:=ts})
 (hf:P.funcs[f]?=some fn) (he:yHO fn=some n) (hp:cx p=some xp) (hq:cx q=some xq) (hK:exbP n (s.ev xp) (s.ev xq) λv=>K (s.put o.dst v)):iE P g o a w K:=by
 have ep:=h.ev hp;have eq:=h.ev hq;obtain⟨h1,h2,h3,h4⟩:=yEC he;unfold exbP at hK;split at hK
 case h_2=>grind
 rename_i bs c hx hy;rw[hx]at ep;rw[hy]at eq;generalize hvp:a.eval p=vp at ep;generalize hvq:a.eval q=vq at eq;have ep:Rd w (Good g s.yRU blk w) vp (.s bs):=ep;have eq:Rd w (Good g s.yRU blk w) vq (.u c):=eq;cases ep with
 | s hs=>
  cases eq with
  | u hc=>
   have e1:a.eval (.func f)=.func (.func f) #[] #[]:=rfl;have e2:(c:Int).toNat.toUInt8=c.toUInt8:=rfl;have hlen:bs.data.toList.length=bs.size:=rfl;have r1:Lib.countByte bs.data.toList c.toUInt8<=bs.data.toList.length:=zdl;have r2:=yyj bs.data.toList c.toUInt8;have r3:=Lib.indexByte_ge bs.data.toList c.toUInt8;unfold maxLen at hs;refine iE.val h hd (v:=.int .i64 (if n=0 then(Lib.countByte bs.data.toList c.toUInt8:Int)else Lib.indexByte bs.data.toList c.toUInt8)) ?_ (.mkI ?_) hK
   .by_cases hn:n=0
    .simp_all [run_callFunc_extern,Lib.run_countString,execOp,resolve,Deferred.ofValue,invoke]
    simp_all [run_callFunc_extern,Lib.run_indexByteString,execOp,resolve,Deferred.ofValue,invoke]
   grind [inI]
theorem yKP(h:Repr g s a w blk)(hd:∀i,o.dst=some i->i<g.N){t:TypeId}{p q:Operand}{xp xq:X}(ho:o.op=.lookup t p q false)(ht:yp2 P t=true)(hp:cx p=some xp)(hq:cx q=some xq)
 (hK:yIS s (s.ev xp) (s.ev xq) λv=>K (s.put o.dst v)):iE P g o a w K:=by
 have ep:=h.ev hp;have eq:=h.ev hq;obtain⟨kt,et,ht1,ht2,ht3⟩:=ysD ht;unfold yIS at hK;split at hK
 case h_2=>grind
 rename_i id n hx hy;rw[hx]at ep;rw[hy]at eq;obtain⟨b,kvs',hO',hb,e1⟩:=ep;obtain⟨e2,hn⟩:=eq.int;split at hK
 case h_2=>grind
 rename_i kvs hO;obtain⟨hm,hin⟩:=h.map hO hb;have hfind:=MapKept.run_findKey (w:=w) ht2 (yuU n kvs 0 0);have hchk:=λem=>MapKept.run_checkKey (P:=P) (w:=w) (k:=.int .i64 n) ht2 rfl em 9999
 have hv:inI (ytd n kvs):=by
  unfold ytd;cases hr:yft n 0 kvs with
  |none=>grind [inI]
  |some r=>
   obtain⟨j1,j2⟩:=ynf n hr
   grind
 refine iE.val h hd (v:=.int .i64 (ytd n kvs)) ?_ (RVs.mkI hv) hK;unfold ytd;cases hr:yft n 0 kvs with
 |none=>
  rw[hr]at hfind;simp[execOp,ho,e1,e2,Instr.lookup,run_underlying ht1,MapKept.run_getObj_map hm,hchk,hfind,ht3,Result.andThen]
 |some r=>
  rw[hr]at hfind;simp[execOp,ho,e1,e2,Instr.lookup,run_underlying ht1,MapKept.run_getObj_map hm,hchk,hfind,Result.andThen]
end
end Go.Proofs.YtdadkiofenhnbaaGreat
namespace Go.Proofs.YtdadkiofenhnbaaGreat
open Go.RowKit
section
variable {P:Program} {g:ySm} {o:Oper} {s:St} {a:Act} {w:World} {blk:Lay} {K:St->Prop}
theorem ymB(off:Nat):∀(vs:List Value) (n:Nat) (cs:Array Value),((vs.zipIdx n).foldl (λ(cs:Array Value) (p:Value×Nat)=>cs.setIfInBounds (off+p.2) p.1) cs).size=cs.size/\
 ∀j,off+n+vs.length<=cs.size->((vs.zipIdx n).foldl (λ(cs:Array Value) (p:Value×Nat)=>cs.setIfInBounds (off+p.2) p.1) cs)[j]?=if off+n<=j/\j<off+n+vs.length then vs[j-(off+n)]? else cs[j]?
 |[],n,cs=>⟨rfl,λj _=>by simp_all [if_neg]⟩
 |v::vs,n,cs=>by
  obtain⟨h1,h2⟩:=ymB off vs (n+1) (cs.setIfInBounds (off+n) v)
  grind [List.zipIdx_cons]
theorem yw6(off:Nat)(cs cells:Array Value)(h:off+cs.size<=cells.size):
 (cs.zipIdx.foldl (λcs (c,j)=>cs.setIfInBounds (off+j) c) cells).size=cells.size/\
 ∀j:Nat,(cs.zipIdx.foldl (λcs (c,j)=>cs.setIfInBounds (off+j) c) cells)[j]?=if off<=j/\j<off+cs.size then cs[j-off]? else cells[j]?:=by
 have e:cs.zipIdx.foldl (λcs (c,j)=>cs.setIfInBounds (off+j) c) cells=(cs.toList.zipIdx 0).foldl (λ(cs:Array Value) (p:Value×Nat)=>cs.setIfInBounds (off+p.2) p.1) cells:=by
  rw[<-Array.foldl_toList];simp
 simp_all [ymB]
theorem yz6(h:Repr g s a w blk){places:List (Nat×Nat)}:∀(parts:List (Nat×Operand)) (ps:List (Nat×Nat×X)) (l:List AV) (cells:Array Value) (K:List AV->Prop),yFt places parts=some ps->
 cells.size=l.length->(∀(j:Nat) (x:AV),l[j]?=some x->∃u,cells[j]?=some u/\RV1 w (Good g s.yRU blk w) s.yRU blk u x)->yd6 s ps l K->
 ∃(l':List AV) (cells':Array Value),K l'/\Instr.fill (λi=>places[i]?) cells (parts.map λp=>(p.1,a.eval p.2))=some cells'/\cells'.size=l'.length/\
  ∀(j:Nat) (x:AV),l'[j]?=some x->∃u,cells'[j]?=some u/\RV1 w (Good g s.yRU blk w) s.yRU blk u x
 |[],ps,l,cells,K,hb,hs,hr,hK=>by
  cases hb;exact⟨l,cells,hK,rfl,hs,hr⟩
 | (i,o)::parts,ps,l,cells,K,hb,hs,hr,hK=>by
  simp only[yFt]at hb;split at hb
  .rename_i off n x xs h1 h2 h3;cases hb;obtain⟨k1,k2,k3,hK⟩:=hK;obtain⟨c1,c2⟩:=yg5 (h.ev h2) k2;obtain⟨f1,f2⟩:=yw6 off (a.eval o).cells cells (by omega)
   obtain⟨l',cells',r1,r2,r3,r4⟩:=yz6 h parts xs _ ((a.eval o).cells.zipIdx.foldl (λcs (c,j)=>cs.setIfInBounds (off+j) c) cells) K h3 (by grind) (by
    grind) hK
   grind [Instr.fill]
  grind
theorem yLq(h:Repr g s a w blk)(hd:∀i,o.dst=some i->i<g.N){t:TypeId}{it:TypeInfo}{fields:Array Field}{z:Value}{parts:Array (Nat×Operand)}{places:List (Nat×Nat)}{ps:List (Nat×Nat×X)}{zs:List AV}
 (ho:o.op=.build t parts) (hi:P.info? t=some it) (ht:P.underlying t=some (.struct fields)) (hz:it.zero=some z) (hp:fields.toList.mapM (λf=>(P.info? f.type).map λi=>(f.offset,i.size))=some places)
 {ks:List Nat} (hb:yFt places parts.toList=some ps) (hzs:ybc z.cells.toList ks=some zs) (hK:yd6 s ps zs λl=>K (s.put o.dst (.agg l))):iE P g o a w K:=by
 obtain⟨c1,c2⟩:=yht hzs
 obtain⟨l',cells',r1,r2,r3,r4⟩:=yz6 h parts.toList ps zs z.cells _ hb (by grind) (λj x hx=>by
  grind [ynH]) hK
 have hbuilt:P.built t (parts.map λ(i,x)=>(i,a.eval x)).toList=some cells':=by
  simp_all [Program.built]
 have hr:=run_build (P:=P) w t (parts.map λ(i,x)=>(i,a.eval x)) cells' hbuilt;refine iE.mY h hd r1 (v:=.agg cells') ?_ ⟨cells',rfl,r3,r4⟩
 grind [Sem.run_bind,Result.andThen_ok,Sem.run_pure,execOp]
theorem ytI(k:Nat):∀(vs:List Value) (m:Nat) (cells:Array Value),(∀v∈vs,v.cells.size=k)->cells.size=(m+vs.length)*k->
 ∃cells':Array Value,Instr.fill (λi=>some (i*k,k)) cells ((vs.zipIdx m).map λp=>(p.2,p.1))=some cells'/\cells'.size=cells.size/\(∀j,j<m*k->cells'[j]?=cells[j]?)/\
  ∀(i:Nat) (v:Value) (j:Nat),vs[i]?=some v->j<k->cells'[(m+i)*k+j]?=v.cells[j]?
 |[],m,cells,_,_=>⟨cells,rfl,rfl,λ_ _=>rfl,λi v j h=>by grind⟩
 | v::vs,m,cells,hk,hs=>by
  have hv:=hk v (by simp);have hmul:(m+(vs.length+1))*k=m*k+k+vs.length*k:=by grind
  simp only[zar]at hs;obtain⟨f1,f2⟩:=yw6 (m*k) v.cells cells (by omega);obtain⟨cells',r1,r2,r3,r4⟩:=ytI k vs (m+1) (v.cells.zipIdx.foldl (λcs (c,j)=>cs.setIfInBounds (m*k+j) c) cells) (λu hu=>hk u (by grind)) (by grind);have hm1:(m+1)*k=m*k+k:=by grind
  refine⟨cells',?_,by omega,λj hj=>?_,λi u j hu hj=>?_⟩
  .grind [List.zipIdx_cons,Instr.fill]
  .grind
  .cases i with
   |zero=>
    grind
   |succ i=>
    grind
theorem ys7:∀(parts:List (Nat×Operand)) (m:Nat) (xs:List X),yuA m parts=some xs->xs.length=parts.length/\(parts.map λp=>(p.1,a.eval p.2))=(((parts.map λp=>a.eval p.2).zipIdx m).map λp=>(p.2,p.1))/\cxs (parts.map (·.2))=some xs
 |[],m,xs,h=>by cases h;exact⟨rfl,rfl,rfl⟩
 | (i,o)::parts,m,xs,h=>by
  simp only[yuA]at h;split at h
  .rename_i e;split at h
   .rename_i x xs' h1 h2;cases h;obtain⟨r1,r2,r3⟩:=ys7 parts (m+1) xs' h2
    grind [List.zipIdx_cons,cxs]
   grind
  grind
theorem yFV{x:AV}{r:List C}{v:Value}(h:RVs g s w blk v x)(hx:x.rowOf=some r):v.cells.size=r.length/\∀(j:Nat) (c:C),r[j]?=some c->∃u,v.cells[j]?=some u/\Rd w (Good g s.yRU blk w) u c:=by
 obtain⟨h1,h2⟩:=yt6 hx
 have hok:x.cellsOf.all AV.lH=true:=by
  rw[zaf];intro y hy;obtain⟨j,hj⟩:=zat hy;have hjl:j<r.length:=by grind
  obtain⟨y',h3,h4⟩:=h2 j _ (zab hjl);rw[hj]at h3;cases h3;cases y<;>simp[AV.toC]at h4<;>rfl
 grind [yg5,yk8]
theorem ytt:∀{l:List AV} {rows:List (List C)},AV.rowsOf l=some rows->rows.length=l.length/\∀(j:Nat) (r:List C),rows[j]?=some r->∃x,l[j]?=some x/\x.rowOf=some r
 |[],cs,h=>by cases h;simp
 | x::l,cs,h=>by
  simp only[AV.rowsOf]at h;split at h
  .rename_i c1 cs1 h1 h2;cases h;obtain⟨hl,hg⟩:=ytt h2
   grind
  grind
theorem yuX{s:St}:∀{l:List AV} {p:List C×List Nat},pkl s l=some p->l.all AV.lH=true
 |[],_,_=>rfl
 | x::l,p,h=>by
  simp only[pkl]at h;split at h
  .rename_i c a cs as h1 h2;have:=yuX h2
   have hx:x.lH=true:=by
    revert h1;cases x<;>simp[pk1,AV.lH]
   grind
  grind
theorem yGk(h:Repr g s a w blk):∀{l:List AV} {us:List Value} {rows:List (List C)} {ids:List Nat},pks s l=some (rows,ids)->
 (∀(j:Nat) (x:AV),l[j]?=some x->∃u,us[j]?=some u/\RVs g s w blk u x)->ids.Nodup->
 ∃Fs:Nat->Nat->Nat->Prop,rows.length=l.length/\(∀(i:Nat) (r:List C),rows[i]?=some r->∃u,us[i]?=some u/\u.cells.size=r.length/\∀(j:Nat) (c:C),r[j]?=some c->∃z,u.cells[j]?=some z/\OT w (Good g s.yRU blk w) z c (Fs i j))/\
  (∀i j y,Fs i j y->∃i0,i0∈ids/\s.yRU i0≠.none/\blk.fp i0 y)/\(∀i j i' j' y,Fs i j y->Fs i' j' y->i=i'/\j=j')
 |[],us,rows,ids,hp,_,_=>by
  cases hp;exact⟨λ_ _=>noF,rfl,λj c hj=>by grind,λ_ _ _ h=>h.elim,λ_ _ _ _ _ h=>h.elim⟩
 | x ::l,us,rows,ids,hp,hv,hnd=>by
  simp only[pks]at hp;split at hp
  .rename_i c a1 cs1 as1 h1 h2;cases hp;obtain⟨u0,hu0,hr0⟩:=hv 0 x rfl;have hnd':=zaY.1 hnd;obtain⟨c1,c2⟩:=yg5 hr0 (yuX h1);obtain⟨F0,f1,f2,f3,f4⟩:=ys4 h (us:=u0.cells.toList) h1 c2 hnd'.1
   obtain⟨Fs,e1,e2,e3,e4⟩:=yGk h (us:=us.tail) h2 (λj y hj=>by
    simp_all) hnd'.2.1
   refine⟨λi=>match i with|0=>F0|i+1=>Fs i,by grind,λi r hi=>?_,λi j y hy=>?_,λi j i' j' y hy hy'=>?_⟩
   .cases i with
    |zero=>
     grind
    |succ i=>
     grind
   .cases i with
    |zero=>grind
    |succ i=>grind
   .have cross:∀j i j',F0 j y->Fs i j' y->False:=by
     intro j i j' q1 q2;obtain⟨i0,m1,m2,m3⟩:=f3 j y q1;obtain⟨i1,n1,n2,n3⟩:=e3 i j' y q2;have:=h.inj i0 i1 y m2 n2 m3 n3
     grind
    cases i with
    |zero=>cases i' with
     |zero=>grind
     |succ i'=>grind
    |succ i=>cases i' with
     |zero=>grind
     |succ i'=>grind
  grind
theorem St.yzF(l:List Nat)(s:St)(i:Nat):(s.drops l).ob i=if i∈l then .none else(s.yRU i).kills l:=St.pV l s i
theorem Repr.yDY(h:Repr g s a w blk){d k:Nat}{ids:List Nat}{rows:List (List C)}{arr:Array Value}{e:TypeId}(hd:(s.drops ids).ob d=.none)(hsz:rows.length*k<=arr.size)(hk:∀r,r∈rows->r.length=k){Fs:Nat->Nat->Nat->Prop}
 (hot:∀(i:Nat) (r:List C),rows[i]?=some r->∀(j:Nat) (c:C),r[j]?=some c->∃u,arr[i*k+j]?=some u/\OT w (Good g s.yRU blk w) u c (Fs i j))
 (hF:∀i j y,Fs i j y->∃i0,i0∈ids/\s.yRU i0≠.none/\blk.fp i0 y) (hdis:∀i j i' j' y,Fs i j y->Fs i' j' y->i=i'/\j=j'):
 ∃L':Lay,L' d=some w.heap.size/\Repr g ⟨(s.drops ids).env,upd d (.tr k 0 rows) (s.drops ids).yRU⟩ a (w.alloc (.cells arr e)) L':=by
 have hup:∀(o':Obj) j,upd d o' (s.drops ids).yRU j=if j=d then o' else(s.drops ids).yRU j:=λ_ _=>rfl
 have hoff:Off noF w (w.alloc (.cells arr e)):=(Off.refl noF w).alloc _;have henv:(s.drops ids).env=λt=>(s.env t).kills ids:=by grind [St.ydJ]
 have hdn:d∉ids->s.yRU d=.none:=by
  grind [St.yzF,Obj.lY]
 refine⟨blk.upd d (some w.heap.size) (λy=>∃i0,i0∈ids/\s.yRU i0≠.none/\blk.fp i0 y),by grind [Lay.eH],?_⟩;rw[henv];refine h.turn ids (λj=>j=d) hoff (λy hy=>hy.elim) (λj hj=>?_) (λj y hj _ hf=>?_) (λj j' y hj hj' _ _ _ _=>hj.trans hj'.symm) (λj y hj _ hr'=>?_) (λj hj hm hl=>?_) (λj k' v' rows' hj hm hk=>?_) (λG' K j hj=>?_)
 .grind [St.pV,Lay.eH,Lay.oN]
 .subst hj;rw[Lay.ypg,if_pos rfl]at hf;rcases hf with hf|⟨i0,m1,m2,m3⟩
  .simp_all
  grind
 .subst hj;rw[Lay.eH,if_pos rfl]at hr';cases hr';rw[Lay.oN,if_pos rfl]
  rintro⟨i0,m1,m2,m3⟩
  have:=(h.new i0 _ m2 m3).2;omega
 .grind
 .grind
 .subst hj;rw[hup,if_pos rfl,Lay.eH,if_pos rfl,Lay.oN,if_pos rfl];refine .inr ⟨_,arr,e,rfl,heap_alloc_new w _,hsz,hk,λi2 j2=>(arr[i2*k+j2]?).getD undef,Fs,λi2 j2 y hy=>⟨hF i2 j2 y hy,?_⟩,hdis,λi2 r hr j2 c hc=>?_,λi2 r hr j2 c hc=>?_⟩
  .obtain⟨i0,m1,m2,m3⟩:=hF i2 j2 y hy;have:=(h.new i0 y m2 m3).2;omega
  .grind
  .obtain⟨u,hu,ho⟩:=hot i2 r hr j2 c hc;dsimp only;rw[hu];refine ho.mono K.good K.cell (λ_ h=>h) λy hy=>?_;obtain⟨i0,m1,m2,m3⟩:=hF i2 j2 y hy;exact Below.heap_alloc w _ y (h.new i0 y m2 m3).2
theorem yLh(h:Repr g s a w blk)(hd:∀i,o.dst=some i->i<g.N){t e:TypeId}{i:TypeInfo}{z:Value}{n:Nat}{parts:Array (Nat×Operand)}{xs:List X}(ho:o.op=.buildSlice t n parts)(ht:P.underlying t=some (.slice e))(hi:P.info? e=some i)(hz:i.zero=some z)
 (hx:yuA 0 parts.toList=some xs) (hn:xs.length=n) (hmax:n*i.size<=1000) (hpos:0<i.size) (hK:yru i.size (xs.map s.ev) s o.dst K):iE P g o a w K:=by
 obtain⟨p1,p2,p3⟩:=ys7 (a:=a) parts.toList 0 xs hx;obtain⟨e1,e2⟩:=h.evs p3;unfold yru at hK;split at hK
 .rename_i rows hrows;obtain⟨hk,hK⟩:=hK;obtain⟨g1,g2⟩:=ytt hrows;have hlen:rows.length=n:=by grind
  have hvals:∀(q:Nat) (r:List C),rows[q]?=some r->∃v,((parts.toList.map (·.2)).map a.eval)[q]?=some v/\v.cells.size=r.length/\∀(j:Nat) (c:C),r[j]?=some c->∃u,v.cells[j]?=some u/\Rd w (Good g s.yRU blk w) u c:=by
   grind [yFV]
  have hvl:((parts.toList.map (·.2)).map a.eval).length=n:=by omega
  obtain⟨cells',f1,f2,f3,f4⟩:=ytI i.size ((parts.toList.map (·.2)).map a.eval) 0 ((Array.range (n*i.size)).map ((if n*i.size=0 then #[]else z.cells)[·%(if n*i.size=0 then #[]else z.cells).size]!)) (by
   intro v hv;obtain⟨q,hq⟩:=zat hv;have hql:q<rows.length:=by grind
   obtain⟨v',h1,h2,_⟩:=hvals q _ (zab hql)
   grind) (by grind)
  have hparts:parts.toList.map (λx=>(x.1,a.eval x.2))=((((parts.toList.map (·.2)).map a.eval).zipIdx 0).map λp=>(p.2,p.1)):=by
   rw[zdf];exact p2
  rw[<-hparts]at f1;refine yeF h hd (v:=.slice (some ⟨w.heap.size,0,none⟩) n n) (arr:=cells') (e:=e) ?_ ?_ ?_ hK
  .have hbig:¬(n*i.size>2^24):=by omega
   by_cases h0:n*i.size=0
   .simp only[h0,if_true,zdc,Array.map_empty]at f1;simp[execOp,ho,Instr.buildSlice,run_underlying ht,pK hi,h0,f1,yaB,zdc]
   .simp only[h0,if_false]at f1;simp[execOp,ho,Instr.buildSlice,run_underlying ht,pK hi,h0,hbig,zeroValue,typeInfo,hi,hz,f1,yaB]
  .intro w' G' O' blk' KK hh;refine .inr ⟨_,_,_,rfl,hh,by grind,hk,λq r j c hq hj=>?_⟩;obtain⟨v,h1,h2,h3⟩:=hvals q r hq;obtain⟨u,hu,hr⟩:=h3 j c hj;have hjk:j<i.size:=by grind
   have:=f4 q v j h1 hjk;rw[zbp]at this;exact⟨u,by grind,hr.mono KK.good KK.cell⟩
  .intro d G' O' blk' hO hb hh;refine⟨_,by rw[hO];rfl,Nat.le_refl _,.inr ⟨_,n,_,_,hb,by grind,by omega,?_,hh,by grind⟩⟩;have:n*1<=n*i.size:=zdU _ hpos
   grind [maxLen]
 .split at hK
  case h_2=>grind
  rename_i rows ids hpk;obtain⟨hk,hnd,hK⟩:=hK;obtain⟨Fs,g1,g2,g3,g4⟩:=yGk h hpk e2 hnd;have hlen:rows.length=n:=by grind
  have hvl:((parts.toList.map (·.2)).map a.eval).length=n:=by omega
  obtain⟨cells',f1,f2,f3,f4⟩:=ytI i.size ((parts.toList.map (·.2)).map a.eval) 0 ((Array.range (n*i.size)).map ((if n*i.size=0 then #[]else z.cells)[·%(if n*i.size=0 then #[]else z.cells).size]!)) (by
   intro v hv;obtain⟨q,hq⟩:=zat hv;have hql:q<rows.length:=by grind
   obtain⟨v',h1,h2,_⟩:=g2 q _ (zab hql)
   grind) (by grind)
  have hparts:parts.toList.map (λx=>(x.1,a.eval x.2))=((((parts.toList.map (·.2)).map a.eval).zipIdx 0).map λp=>(p.2,p.1)):=by
   rw[zdf];exact p2
  rw[<-hparts]at f1
  have hrun:(execOp a.eval o).run P w=.ok (.value (.slice (some ⟨w.heap.size,0,none⟩) n n)) (w.alloc (.cells cells' e)):=by
   have hbig:¬(n*i.size>2^24):=by omega
   by_cases h0:n*i.size=0
   .simp only[h0,if_true,zdc,Array.map_empty]at f1;simp[execOp,ho,Instr.buildSlice,run_underlying ht,pK hi,h0,f1,yaB,zdc]
   .simp only[h0,if_false]at f1;simp[execOp,ho,Instr.buildSlice,run_underlying ht,pK hi,h0,hbig,zeroValue,typeInfo,hi,hz,f1,yaB]
  unfold newP at hK;split at hK
  .rename_i d hdst;obtain⟨hd0,hK⟩:=hK
   obtain⟨L',hL,hre⟩:=h.yDY (d:=d) (k:=i.size) (arr:=cells') (e:=e) (Fs:=Fs) (yaa hd0) (by grind) hk (λi2 r hr j c hc=>by
    grind) g3 g4
   refine⟨_,_,hrun,_,L',hK,?_⟩
   have hput:=hre.put (d:=some d) (v:=.slice (some ⟨w.heap.size,0,none⟩) n n) (x:=.own d i.size rows.length) (by grind) (by
    refine⟨rows.length,by simp[upd,Obj.nO],Nat.le_refl _,.inr ⟨_,n,cells',e,hL,by grind,by omega,?_,heap_alloc_new w _,by grind⟩⟩;have:n*1<=n*i.size:=zdU _ hpos
    grind [maxLen])
   rw[hdst];exact hput
  grind
end
end Go.Proofs.YtdadkiofenhnbaaGreat
namespace Go.Proofs.YtdadkiofenhnbaaGreat
open Go.RowKit
def Rd.cut{w:World}{G:Nat->Prop}{ad:Option Addr}{len cap k:Nat}{rows:List (List C)}(h:Rd w G (.slice ad len cap) (.sl k rows)){l q m:Nat}(h1:l<=q)(h2:q<=len)(h3:q<=m)(h4:m<=cap):
 Rd w G (.slice (if m=l then ad else ad.map (·.add (l*k))) (q-l) (m-l)) (.sl k ((rows.take q).drop l)):=by
 cases h with
 | sl vals e1 e2 e3 e4 e5 e6 e7=>
  have get:∀i r,((rows.take q).drop l)[i]?=some r->rows[l+i]?=some r/\l+i<q:=by
   grind
  refine .sl (λi j=>vals (l+i) j) (by grind) (by omega) (by omega) (λr hr=>?_) (λhl=>?_) (λi r hr j c hc=>?_) (λi r hr j c hc=>?_)
  .grind
  .grind
  .grind [block_add,add_add]
  grind
section
variable {P:Program} {g:ySm} {o:Oper} {s:St} {a:Act} {w:World} {blk:Lay} {K:St->Prop}
theorem jW{n:Int}{y:Nat}{code:BoundsCode}(h0:0<=n)(h1:n<=y)(w:World):(Instr.sliceBound (.int .i64 n) y code).run P w=.ok n.toNat w:=by
 simp_all [Instr.sliceBound,asIntOf]
def yyE{t e:TypeId}{i:TypeInfo}(ht:P.underlying t=some (.slice e))(hi:P.info? e=some i)(ad:Option Addr)(len cap:Nat){l h:Int}(h0:0<=l)(h1:l<=h)(h2:h<=cap)(w:World):
 (Instr.sliceAt t (.slice ad len cap) (some (.int .i64 l)) (some (.int .i64 h)) none).run P w=.ok (.slice (if cap=l.toNat then ad else ad.map (·.add (l.toNat*i.size))) (h.toNat-l.toNat) (cap-l.toNat)) w:=by
 have b1:=jW (P:=P) (n:=h) (y:=cap) (code:=.sliceAcap) (by omega) h2 w;have b2:=jW (P:=P) (n:=l) (y:=h.toNat) (code:=.sliceB) h0 (by omega) w;simp[Instr.sliceAt,Instr.slice,run_underlying ht,Instr.sliceBounds,b1,b2,pK hi]
def ymZ{t e:TypeId}{i:TypeInfo}(ht:P.underlying t=some (.slice e))(hi:P.info? e=some i)(ad:Option Addr)(len cap:Nat){l:Int}(h0:0<=l)(h1:l<=len)(w:World):
 (Instr.sliceAt t (.slice ad len cap) (some (.int .i64 l)) none none).run P w=.ok (.slice (if cap=l.toNat then ad else ad.map (·.add (l.toNat*i.size))) (len-l.toNat) (cap-l.toNat)) w:=by
 have b2:=jW (P:=P) (n:=l) (y:=len) (code:=.sliceB) h0 h1 w;simp[Instr.sliceAt,Instr.slice,run_underlying ht,Instr.sliceBounds,b2,pK hi]
def yg3{t e:TypeId}{i:TypeInfo}(ht:P.underlying t=some (.slice e))(hi:P.info? e=some i)(ad:Option Addr)(len cap:Nat){h:Int}(h0:0<=h)(h1:h<=cap)(w:World):
 (Instr.sliceAt t (.slice ad len cap) none (some (.int .i64 h)) none).run P w=.ok (.slice (if cap=0 then ad else ad.map (·.add (0*i.size))) h.toNat cap) w:=by
 have b1:=jW (P:=P) (n:=h) (y:=cap) (code:=.sliceAcap) h0 h1 w;simp[Instr.sliceAt,Instr.slice,run_underlying ht,Instr.sliceBounds,b1,pK hi]
def ysX{t e:TypeId}{i:TypeInfo}(ht:P.underlying t=some (.slice e))(hi:P.info? e=some i)(ad:Option Addr)(len cap:Nat){h m:Int}(h0:0<=h)(h1:h<=m)(h2:m<=cap)(w:World):
 (Instr.sliceAt t (.slice ad len cap) none (some (.int .i64 h)) (some (.int .i64 m))).run P w=.ok (.slice (if m.toNat=0 then ad else ad.map (·.add (0*i.size))) h.toNat m.toNat) w:=by
 have b1:=jW (P:=P) (n:=m) (y:=cap) (code:=.slice3Acap) (by omega) h2 w;have b2:=jW (P:=P) (n:=h) (y:=m.toNat) (code:=.slice3B) h0 (by omega) w;simp[Instr.sliceAt,Instr.slice,run_underlying ht,Instr.sliceBounds,b1,b2,pK hi]
theorem bV(ad:Option Addr)(k:Nat)(c:Prop)[Decidable c]:(if c then ad else ad.map (·.add (0*k)))=ad:=by
 simp_all [Addr.add]
theorem yyY(h:Repr g s a w blk)(hd:∀i,o.dst=some i->i<g.N){t e:TypeId}{k:Nat}{p:Operand}{lo hi mx:Option Operand}{xp:X}{xl xh xm:Option X}(ho:o.op=.slice t p lo hi mx)(ht:P.underlying t=some (.slice e))(hk:ycM P e=some k)
 (hp:cx p=some xp) (hl:∀y,lo=some y->∃x,xl=some x/\cx y=some x) (hh:∀y,hi=some y->∃x,xh=some x/\cx y=some x) (hm:∀y,mx=some y->∃x,xm=some x/\cx y=some x)
 (nl:lo=none->xl=none) (nh:hi=none->xh=none) (nm:mx=none->xm=none)
 (hK:yhr k (s.ev xp) (xl.map s.ev) (xh.map s.ev) (xm.map s.ev) λv=>K (s.put o.dst v)):iE P g o a w K:=by
 obtain⟨i,hi',rfl⟩:=yaT hk;have ep:=h.ev hp
 have rl:∀n:Int,xl.map s.ev=some (.c (.i n))->lo.map a.eval=some (.int .i64 n):=by
  intro n hn;cases lo with
  |none=>grind
  |some y=>
   obtain⟨x,rfl,hx⟩:=hl y rfl;have:=h.ev hx;simp only[zaT,Option.some.injEq]at hn;rw[hn]at this;simp[this.int.1]
 have rh:∀n:Int,xh.map s.ev=some (.c (.i n))->hi.map a.eval=some (.int .i64 n):=by
  intro n hn;cases hi with
  |none=>grind
  |some y=>
   obtain⟨x,rfl,hx⟩:=hh y rfl;have:=h.ev hx;simp only[zaT,Option.some.injEq]at hn;rw[hn]at this;simp[this.int.1]
 have rm:∀n:Int,xm.map s.ev=some (.c (.i n))->mx.map a.eval=some (.int .i64 n):=by
  intro n hn;cases mx with
  |none=>grind
  |some y=>
   obtain⟨x,rfl,hx⟩:=hm y rfl;have:=h.ev hx;simp only[zaT,Option.some.injEq]at hn;rw[hn]at this;simp[this.int.1]
 have ul:xl.map s.ev=none->lo.map a.eval=none:=by
  intro hn;cases lo with
  |none=>rfl
  |some y=>grind
 have uh:xh.map s.ev=none->hi.map a.eval=none:=by
  intro hn;cases hi with
  |none=>rfl
  |some y=>grind
 have um:xm.map s.ev=none->mx.map a.eval=none:=by
  intro hn;cases mx with
  |none=>rfl
  |some y=>grind
 have run:∀r,(Instr.sliceAt t (a.eval p) (lo.map a.eval) (hi.map a.eval) (mx.map a.eval)).run P w=.ok r w->(execOp a.eval o).run P w=.ok (.value r) w:=by
  grind [Sem.run_bind,Result.andThen_ok,Sem.run_pure,execOp]
 revert hK ep rl rh rm ul uh um run;generalize s.ev xp=vp;generalize a.eval p=v;generalize xl.map s.ev=vl;generalize xh.map s.ev=vh;generalize xm.map s.ev=vm;generalize lo.map a.eval=ul;generalize hi.map a.eval=uh;generalize mx.map a.eval=um;intro hK ep rl rh rm nl nh nm run;unfold yhr at hK;split at hK
 .rename_i k' rows l q;obtain⟨rfl,h0,h1,h2,hK⟩:=hK;cases rl _ rfl;cases rh _ rfl;cases nm rfl
  obtain⟨ad,len,cap,e1,hr⟩:∃ad len cap,v=.slice ad len cap/\rows.length=len:=by
   cases ep.c;grind
  subst e1;have hlc:len<=cap:=by cases ep.c;omega
  refine iE.mY h hd hK (run _ (yyE ht hi' ad len cap h0 h1 (by omega) w)) (.mk ?_);exact Rd.cut ep.c (by omega) (by omega) (by omega) (Nat.le_refl _)
 .rename_i k' rows l;obtain⟨rfl,h0,h1,hK⟩:=hK;cases rl _ rfl;cases nh rfl;cases nm rfl
  obtain⟨ad,len,cap,e1,hr⟩:∃ad len cap,v=.slice ad len cap/\rows.length=len:=by
   cases ep.c;grind
  subst e1;have hlc:len<=cap:=by cases ep.c;omega
  refine iE.mY h hd hK (run _ (ymZ ht hi' ad len cap h0 (by omega) w)) (.mk ?_);have:=Rd.cut ep.c (l:=l.toNat) (q:=len) (m:=cap) (by omega) (Nat.le_refl _) hlc (Nat.le_refl _)
  grind
 .rename_i k' rows q;obtain⟨rfl,h0,h1,hK⟩:=hK;cases nl rfl;cases rh _ rfl;cases nm rfl
  obtain⟨ad,len,cap,e1,hr⟩:∃ad len cap,v=.slice ad len cap/\rows.length=len:=by
   cases ep.c;grind
  subst e1;have hlc:len<=cap:=by cases ep.c;omega
  have hrun:=yg3 (P:=P) ht hi' ad len cap h0 (by omega) w;rw[bV]at hrun;refine iE.mY h hd hK (run _ hrun) (.mk ?_);have:=Rd.cut ep.c (l:=0) (q:=q.toNat) (m:=cap) (by omega) (by omega) (by omega) (Nat.le_refl _);rw[bV]at this
  grind
 .rename_i k' rows q m;obtain⟨rfl,h0,rfl,h1,hK⟩:=hK;cases nl rfl;cases rh _ rfl;cases rm _ rfl
  obtain⟨ad,len,cap,e1,hr⟩:∃ad len cap,v=.slice ad len cap/\rows.length=len:=by
   cases ep.c;grind
  subst e1;have hlc:len<=cap:=by cases ep.c;omega
  have hrun:=ysX (P:=P) ht hi' ad len cap h0 (zbj _) (by omega) w;rw[bV]at hrun;have:=Rd.cut ep.c (l:=0) (q:=q.toNat) (m:=q.toNat) (by omega) (by omega) (by omega) (by omega);rw[bV]at this;exact iE.mY h hd hK (run _ hrun) ⟨ad,_,rfl,this⟩
 .rename_i id k' n q;obtain⟨rfl,h0,h1,hK⟩:=hK;cases nl rfl;cases rh _ rfl;cases nm rfl;obtain⟨m0,hO,hn,hv⟩:=ep;rcases hv with⟨hb,rfl,A0,rfl⟩|⟨b,cap,arr,e',hb,rfl,h2,h3,h4,h5⟩
  .have hrun:=yg3 (P:=P) ht hi' A0 0 0 h0 (by omega) w;rw[bV]at hrun;have e0:q.toNat=0:=by omega
   rw[e0]at hrun;exact iE.mY h hd hK (run _ hrun) ⟨m0,hO,by omega,.inl ⟨hb,by omega,A0,rfl⟩⟩
  .have hrun:=yg3 (P:=P) ht hi' (some ⟨b,0,none⟩) n cap h0 (by omega) w;rw[bV]at hrun;exact iE.mY h hd hK (run _ hrun) ⟨m0,hO,by omega,.inr ⟨b,cap,arr,e',hb,rfl,by omega,h3,h4,h5⟩⟩
 .rename_i id k' n l;obtain⟨rfl,h0,h1,hK⟩:=hK;cases rl _ rfl;cases nh rfl;cases nm rfl;obtain⟨m0,hO,hn,hv⟩:=ep;rcases hv with⟨hb,rfl,A0,rfl⟩|⟨b,cap,arr,e',hb,rfl,h2,h3,h4,h5⟩
  .have hrun:=ymZ (P:=P) ht hi' A0 0 0 h0 (by omega) w;exact iE.mY h hd hK (run _ hrun) ⟨m0,_,_,hO,by omega,rfl,by omega,by omega,λhp=>by omega⟩
  .have hrun:=ymZ (P:=P) ht hi' (some ⟨b,0,none⟩) n cap h0 (by omega) w;refine iE.mY h hd hK (run _ hrun) ⟨m0,_,_,hO,by omega,rfl,by omega,by omega,λhp=>⟨b,hb,?_⟩⟩
   grind [add_lit]
 .rename_i id k' n l q;obtain⟨rfl,h0,h1,h1',hK⟩:=hK;cases rl _ rfl;cases rh _ rfl;cases nm rfl;obtain⟨m0,hO,hn,hv⟩:=ep;rcases hv with⟨hb,rfl,A0,rfl⟩|⟨b,cap,arr,e',hb,rfl,h2,h3,h4,h5⟩
  .have hrun:=yyE (P:=P) ht hi' A0 0 0 h0 h1 (by omega) w;exact iE.mY h hd hK (run _ hrun) ⟨m0,_,_,hO,by omega,rfl,by omega,by omega,λhp=>by omega⟩
  .have hrun:=yyE (P:=P) ht hi' (some ⟨b,0,none⟩) n cap h0 h1 (by omega) w;refine iE.mY h hd hK (run _ hrun) ⟨m0,_,_,hO,by omega,rfl,by omega,by omega,λhp=>⟨b,hb,?_⟩⟩
   grind [add_lit]
 .rename_i q;obtain⟨rfl,hK⟩:=hK;cases nl rfl;cases rh _ rfl;cases nm rfl;cases ep;have hrun:=yg3 (P:=P) ht hi' none 0 0 (zbj _) (by omega) w;rw[bV]at hrun;exact iE.mY h hd hK (run _ hrun) rfl
 .rename_i q m;obtain⟨rfl,rfl,hK⟩:=hK;cases nl rfl;cases rh _ rfl;cases rm _ rfl;cases ep;have hrun:=ysX (P:=P) ht hi' none 0 0 (zbj _) (zbj _) (by omega) w;rw[bV]at hrun;exact iE.mY h hd hK (run _ hrun) rfl
 grind
theorem yLF(h:Repr g s a w blk)(hd:∀i,o.dst=some i->i<g.N){t e:TypeId}{k n:Nat}{p q:Operand}{xp xq:X}(ho:o.op=.slice t p none (some q) none)(ht:P.underlying t=some (.array n e))(hk:ycM P e=some k)
 (hp:cx p=some xp) (hq:cx q=some xq) (hn:n<=maxLen)
 (hK:ypt k n s (s.ev xp) (s.ev xq) λv=>K (s.put o.dst v)):iE P g o a w K:=by
 obtain⟨i,hi',rfl⟩:=yaT hk;have ep:=h.ev hp;have eq:=h.ev hq;unfold ypt at hK;split at hK
 .rename_i id k' j q' hx1 hx2;rw[hx1]at ep;rw[hx2]at eq;split at hK
  .rename_i k2 rows hO;obtain⟨rfl,rfl,h0,h1,h2,hK⟩:=hK;obtain⟨b,rows',hO',hb,e1⟩:=ep
   have e3:k2=i.size:=by
    have:(s.ob id).nO=some (i.size,rows'):=hO'
    grind [Obj.nO]
   subst e3;obtain⟨e2,_⟩:=eq.int;obtain⟨arr,e',r1,r2,r3,r4⟩:=h.row hO hb
   have hrun:(execOp a.eval o).run P w=.ok (.value (.slice (some ⟨b,0,none⟩) q'.toNat n)) w:=by
    simp_all [jW,run_underlying,pK,execOp,Instr.sliceAt,Instr.sureAddr,Instr.sliceBounds,Addr.add]
   refine iE.mY h hd hK hrun ⟨rows.length,by rw[show s.yRU id=_ from hO];rfl,by omega,.inr ⟨b,n,arr,e',hb,rfl,by omega,hn,r1,by grind⟩⟩
  grind
 grind
theorem yBp(h:Repr g s a w blk)(hd:∀i,o.dst=some i->i<g.N){t:TypeId}{p:Operand}{lo hi:Option Operand}{xp:X}{xl xh:Option X}(ho:o.op=.slice t p lo hi none)(ht:P.underlying t=some .string)
 (hp:cx p=some xp) (hl:∀y,lo=some y->∃x,xl=some x/\cx y=some x) (hh:∀y,hi=some y->∃x,xh=some x/\cx y=some x)
 (nl:lo=none->xl=none) (nh:hi=none->xh=none)
 (hK:yuk (s.ev xp) (xl.map s.ev) (xh.map s.ev) λv=>K (s.put o.dst v)):iE P g o a w K:=by
 have ep:=h.ev hp
 have rl:∀n:Int,xl.map s.ev=some (.c (.i n))->lo.map a.eval=some (.int .i64 n):=by
  intro n hn;cases lo with
  |none=>grind
  |some y=>
   obtain⟨x,rfl,hx⟩:=hl y rfl;have:=h.ev hx;simp only[zaT,Option.some.injEq]at hn;rw[hn]at this;simp[this.int.1]
 have rh:∀n:Int,xh.map s.ev=some (.c (.i n))->hi.map a.eval=some (.int .i64 n):=by
  intro n hn;cases hi with
  |none=>grind
  |some y=>
   obtain⟨x,rfl,hx⟩:=hh y rfl;have:=h.ev hx;simp only[zaT,Option.some.injEq]at hn;rw[hn]at this;simp[this.int.1]
 have ul:xl.map s.ev=none->lo.map a.eval=none:=by
  intro hn;cases lo with
  |none=>rfl
  |some y=>grind
 have uh:xh.map s.ev=none->hi.map a.eval=none:=by
  intro hn;cases hi with
  |none=>rfl
  |some y=>grind
 have run:∀r,(Instr.sliceAt t (a.eval p) (lo.map a.eval) (hi.map a.eval) none).run P w=.ok r w->(execOp a.eval o).run P w=.ok (.value r) w:=by
  grind [Sem.run_bind,Result.andThen_ok,Sem.run_pure,execOp]
 revert hK ep rl rh ul uh run;generalize s.ev xp=vp;generalize a.eval p=v;generalize xl.map s.ev=vl;generalize xh.map s.ev=vh;generalize lo.map a.eval=ul;generalize hi.map a.eval=uh;intro hK ep rl rh nl nh run;unfold yuk at hK;split at hK
 .rename_i bs l q;obtain⟨h0,h1,h2,hK⟩:=hK;cases rl _ rfl;cases rh _ rfl;obtain⟨rfl,hs⟩:=ep.str;have b1:=jW (P:=P) (n:=q) (y:=bs.size) (code:=.sliceAlen) (by omega) h2 w;have b2:=jW (P:=P) (n:=l) (y:=q.toNat) (code:=.sliceB) h0 (by omega) w;refine iE.mY h hd hK (run (.string (bs.extract l.toNat q.toNat)) ?_) (.mk (.s (by simp;omega)));simp[Instr.sliceAt,Instr.slice,run_underlying ht,Instr.sliceBounds,b1,b2]
 .rename_i bs l;obtain⟨h0,h1,hK⟩:=hK;cases rl _ rfl;cases nh rfl;obtain⟨rfl,hs⟩:=ep.str;have b2:=jW (P:=P) (n:=l) (y:=bs.size) (code:=.sliceB) h0 (by omega) w;refine iE.mY h hd hK (run (.string (bs.extract l.toNat bs.size)) ?_) (.mk (.s (by simp;omega)));simp[Instr.sliceAt,Instr.slice,run_underlying ht,Instr.sliceBounds,b2]
 .rename_i bs q;obtain⟨h0,h1,hK⟩:=hK;cases nl rfl;cases rh _ rfl;obtain⟨rfl,hs⟩:=ep.str;have b1:=jW (P:=P) (n:=q) (y:=bs.size) (code:=.sliceAlen) (by omega) h1 w;refine iE.mY h hd hK (run (.string (bs.extract 0 q.toNat)) ?_) (.mk (.s (by simp;omega)));simp[Instr.sliceAt,Instr.slice,run_underlying ht,Instr.sliceBounds,b1]
 grind
end
end Go.Proofs.YtdadkiofenhnbaaGreat
namespace Go.Proofs.YtdadkiofenhnbaaGreat
open Go.RowKit
def yio:Bool->World->(Nat->Prop)->Value->C->(Nat->Prop)->Prop
 |true,w,G,u,c,_=>Rd w G u c
 |false,w,G,u,c,F=>OT w G u c F
def yio.ot{fl:Bool}{w:World}{G:Nat->Prop}{u:Value}{c:C}{F:Nat->Prop}(h:yio fl w G u c F):OT w G u c F:=by
 cases fl
 .exact h
 .exact .sh h
def yio.yI8{fl:Bool}{w:World}{G:Nat->Prop}{u:Value}{c:C}{F:Nat->Prop}(h:Rd w G u c):yio fl w G u c F:=by
 cases fl
 .exact .sh h
 .exact h
def mkO:Bool->Nat->List (List C)->Obj
 |true,k,r=>.row k r
 |false,k,r=>.tr k 0 r
def ys3(fl:Bool)(k:Nat)(r:List (List C)):(mkO fl k r).nO=some (k,r.length):=by cases fl<;>rfl
section
variable {g:ySm} {s:St} {a:Act} {w:World} {blk:Lay}
theorem Repr.virt(h:Repr g s a w blk){d k:Nat}(fl:Bool)(hd:s.ob d=.none):
 Repr g ⟨s.env,upd d (mkO fl k []) s.yRU⟩ a w (blk.upd d none noF):=by
 have hO:∀i,upd d (mkO fl k []) s.yRU i=if i=d then mkO fl k []else s.yRU i:=λi=>rfl
 have hd':s.yRU d=.none:=hd;refine h.turn [] (λi=>i=d) (Off.refl noF w) (λq hq=>hq.elim) (λi hi=>?_) (λi b hi _ hf=>?_) (λi j b hi hj _ _ _ _=>hi.trans hj.symm) (λi b hi _ hr=>?_) (λi hi _ hl=>?_) (λi k v rows hi _ hk=>?_) (λG' K i hi=>?_)
 .grind [Obj.yTq,Lay.eH,Lay.oN]
 .subst hi;rw[Lay.ypg,if_pos rfl]at hf;rcases hf with hf|hf
  .grind
  .exact hf.elim
 .grind [Lay.eH]
 .grind
 .grind
 .subst hi;rw[hO,if_pos rfl,Lay.oN,if_pos rfl,Lay.eH,if_pos rfl];cases fl
  .exact .inl ⟨rfl,rfl⟩
  .exact .inl ⟨rfl,rfl⟩
theorem yDp{G:Nat->Prop}{ad:Addr}{len cap k:Nat}{rows:List (List C)}(h:Rd w G (.slice (some ad) len cap) (.sl k rows)):
 ∃news:List Value,news.length=len*k/\(∀j u,news[j]?=some u->w.cell? (ad.add j)=some u)/\
  ∀(i:Nat) (r:List C) (j:Nat) (c:C),rows[i]?=some r->r[j]?=some c->∃u,news[i*k+j]?=some u/\Rd w G u c:=by
 cases h with
 | sl vals e1 e2 e3 e4 e5 e6 e7=>
  have key:∀(i:Nat) (r:List C) (j:Nat) (c:C),rows[i]?=some r->r[j]?=some c->w.cell? (ad.add (i*k+j))=some (vals i j):=by
   grind
  have bound:∀(i:Nat) (r:List C) (j:Nat) (c:C),rows[i]?=some r->r[j]?=some c->i*k+j<len*k:=by
   intro i r j c hr hc;have h1:i<rows.length:=(zaa.1 hr).1;have h2:j<k:=by grind
   have h3:(i+1)*k<=len*k:=zaq _ (by omega)
   grind
  refine⟨(List.range (len*k)).map λj=>(w.cell? (ad.add j)).getD undef,by simp,λj u hu=>?_,λi r j c hr hc=>?_⟩
  .have hj:j<len*k:=by grind
   have hk:0<k:=by grind
   have hi:j/k<rows.length:=by simp_all [zdS,Nat.mul_comm]
   have hr:=zab hi;have hm:j%k<(rows[j/k]).length:=by simp_all [zes]
   have:=key _ _ (j%k) _ hr (zab hm)
   grind [Nat.div_add_mod]
  grind
theorem yAw(h:Repr g s a w blk){id k b:Nat}{rows:List (List C)}(hO:s.ob id=.row k rows)(hb:blk id=some b){lo n:Nat}(hn:lo+n<=rows.length):
 ∃news:List Value,news.length=((rows.drop lo).take n).length*k/\(∀j u,news[j]?=some u->w.cell? ((⟨b,lo*k,none⟩:Addr).add j)=some u)/\(∀r,r∈(rows.drop lo).take n->r.length=k)/\
  ∀(i:Nat) (r:List C) (j:Nat) (c:C),((rows.drop lo).take n)[i]?=some r->r[j]?=some c->∃u,news[i*k+j]?=some u/\Rd w (Good g s.yRU blk w) u c:=by
 obtain⟨arr,e,r1,r2,r3,r4⟩:=h.row hO hb;have hlen:((rows.drop lo).take n).length=n:=by grind
 have hle:(lo+n)*k<=rows.length*k:=zaq _ hn;rw[zbB]at hle;refine⟨(arr.toList.drop (lo*k)).take (n*k),by grind,λj u hu=>?_,λr hr=>r3 r (zaO (zaw hr)),λi r j c hr hc=>?_⟩
 .grind [add_lit,cell_of]
 .rw[zbv]at hr;split at hr
  .rename_i hin;rw[zbD]at hr;obtain⟨u,hu,hru⟩:=r4 _ r j c hr hc;have hj:j<k:=by grind
   have h5:(i+1)*k<=n*k:=zaq _ hin
   grind
  grind
def yzM(fl:Bool)(w:World)(G:Nat->Prop)(v:Value)(k:Nat)(new:List (List C))(Fn:Nat->Nat->Nat->Prop):Prop:=
 ∃ A c,v=.slice A new.length c/\(A=none->new=[])/\(∀r,r∈new->r.length=k)/\∀ad,A=some ad->∃news:List Value,news.length=new.length*k/\(∀j u,news[j]?=some u->w.cell? (ad.add j)=some u)/\
     ∀(i:Nat) (r:List C) (j:Nat) (c:C),new[i]?=some r->r[j]?=some c->∃u,news[i*k+j]?=some u/\yio fl w G u c (Fn i j)
theorem src_ok(h:Repr g s a w blk){v:Value}{y:AV}{k:Nat}{new:List (List C)}(hv:RVs g s w blk v y)(hs:dI s k y=some new):yzM true w (Good g s.yRU blk w) v k new (λ_ _=>noF):=by
 have rd:∀rows,Rd w (Good g s.yRU blk w) v (.sl k rows)->new=rows->yzM true w (Good g s.yRU blk w) v k new (λ_ _=>noF):=by
  intro rows hr e;subst e;have hr':=hr;cases hr with
  |sl vals e1 e2 e3 e4 e5 e6 e7=>
   rename_i A len cap;subst e1;refine⟨A,cap,rfl,λe=>?_,e4,λad e=>?_⟩
   .simp_all
   .subst e;exact yDp hr'
 unfold dI at hs;split at hs
 .rename_i k' rows;split at hs
  .rename_i e;subst e;cases hs;exact rd _ hv.c rfl
  grind
 .rename_i k' rows;split at hs
  .rename_i e;subst e;cases hs;obtain⟨_,_,_,hr⟩:=hv;grind
  grind
 .rename_i id k' n;split at hs
  .rename_i k2 rows hO;split at hs
   .rename_i e;subst e;cases hs;obtain⟨m,hO',hn,hval⟩:=hv
    have e3:k2=k'/\rows.length=m:=by
     have:(s.ob id).nO=some (k',m):=hO'
     grind [Obj.nO]
    obtain⟨rfl,rfl⟩:=e3;have hlen:(rows.take n).length=n:=by grind
    rcases hval with⟨hb,rfl,A0,rfl⟩|⟨b,cap,arr,e,hb,rfl,h1,h2,h3,h4⟩
    .exact⟨A0,0,by simp,λ_=>by simp,λr hr=>by grind,λad e=>⟨[],by simp,λj u hu=>by grind,λi r j c hr=>by grind⟩⟩
    .obtain⟨news,n1,n2,n3,n4⟩:=yAw h hO hb (lo:=0) (n:=n) (by omega);simp only[List.drop_zero]at n1 n3 n4;refine⟨some ⟨b,0,none⟩,cap,by grind,λe=>(by cases e),n3,λad e=>?_⟩;cases e;exact⟨news,n1,by grind,n4⟩
   grind
  grind
 .rename_i id k' lo n;split at hs
  .rename_i k2 rows hO;split at hs
   .rename_i e;subst e;cases hs;obtain⟨m,A,c,hO',hn,rfl,h1,h2,h3⟩:=hv
    have e3:k2=k'/\rows.length=m:=by
     have:(s.ob id).nO=some (k',m):=hO'
     grind [Obj.nO]
    obtain⟨rfl,rfl⟩:=e3;have hlen:((rows.drop lo).take n).length=n:=by grind
    rcases zaB n with h0|h0
    .subst h0;exact⟨A,c,by simp,λ_=>by simp,λr hr=>by grind,λad e=>⟨[],by simp,λj u hu=>by grind,λi r j c hr=>by grind⟩⟩
    .obtain⟨b,hb,rfl⟩:=h3 h0;obtain⟨news,n1,n2,n3,n4⟩:=yAw h hO hb (lo:=lo) (n:=n) hn;refine⟨_,c,by rw[hlen],λe=>(by cases e),n3,λad e=>?_⟩;cases e;exact⟨news,n1,n2,n4⟩
   grind
  grind
 .cases hs;cases hv;exact⟨none,0,rfl,λ_=>rfl,λr hr=>by grind,λad e=>by cases e⟩
 grind
theorem yGf(h:Repr g s a w blk){v:Value}{y:AV}{k idy:Nat}{new:List (List C)}(hv:RVs g s w blk v y)(hs:ydk s k y=some (idy,new)):
 s.yRU idy≠.none/\∃Fn:Nat->Nat->Nat->Prop,yzM false w (Good g s.yRU blk w) v k new Fn/\(∀i j x,Fn i j x->blk.sub idy x)/\(∀i j i' j' x,Fn i j x->Fn i' j' x->i=i'/\j=j'):=by
 unfold ydk at hs;split at hs
 .rename_i id k' n;split at hs
  .rename_i k2 ver rows hO;split at hs
   .rename_i e;subst e;cases hs;refine⟨by rw[show s.yRU idy=_ from hO];simp,?_⟩;obtain⟨m,hO',hn,hval⟩:=hv
    have e3:k2=k'/\rows.length=m:=by
     have:(s.ob idy).nO=some (k',m):=hO'
     grind [Obj.nO]
    obtain⟨rfl,rfl⟩:=e3;have hlen:(rows.take n).length=n:=by grind
    rcases hval with⟨hb,rfl,A0,rfl⟩|⟨b,cap,arr,e,hb,rfl,h1,h2,h3,h4⟩
    .exact⟨λ_ _=>noF,⟨A0,0,by simp,λ_=>by simp,λr hr=>by grind,λad e=>⟨[],by simp,λj u hu=>by grind,λi r j c hr=>by grind⟩⟩,λ_ _ _ h=>h.elim,λ_ _ _ _ _ h=>h.elim⟩
    .obtain⟨arr',e',r1,r2,r3,vals,Fs,r4,r5,r6,r7⟩:=h.tree hO hb;rw[h3]at r1;cases r1;have hle:n*k2<=rows.length*k2:=zaq _ hn;refine⟨Fs,⟨some ⟨b,0,none⟩,cap,by grind,λe=>(by cases e),λr hr=>r3 r (zaw hr),λad e=>?_⟩,λi j x hx=>(r4 i j x hx).1,r5⟩;cases e;refine⟨arr.toList.take (n*k2),by grind,λj u hu=>?_,λi r j c hr hc=>?_⟩
     .grind [add_lit,cell_of]
     .rw[zbv]at hr;split at hr
      .rename_i hin;have hj:j<k2:=by grind
       have h5:(i+1)*k2<=n*k2:=zaq _ hin;rw[zbB,zco]at h5;exact⟨_,by grind,r7 i r hr j c hc⟩
      grind
   grind
  grind
 grind
end
end Go.Proofs.YtdadkiofenhnbaaGreat
namespace Go.Proofs.YtdadkiofenhnbaaGreat
open Go.RowKit
section
variable {P:Program} {g:ySm} {o:Oper} {s:St} {a:Act} {w:World} {blk:Lay} {K:St->Prop}
def yp1(t ty e e':TypeId)(i:TypeInfo)(ht:P.underlying t=some (.slice e))(hi:P.info? e=some i)
 (q sLen sCap:Nat) (cur:Array Value) (hg:w.heap[q]?=some (.cells cur e' (0,0)))
 (ad:Addr) (m c:Nat) (news:List Value) (hl:news.length=m*i.size) (hnews:∀j u,news[j]?=some u->w.cell? (ad.add j)=some u) (h1:∀u∈news,u.oneCell'=true)
 (hroom:sLen+m<=sCap) (hfit:sLen*i.size+news.length<=cur.size):
 (Builtin.append_ #[t,t] ty #[.slice (some ⟨q,0,none⟩) sLen sCap,.slice (some ad) m c]).run P w=
  .ok (.slice (some ⟨q,0,none⟩) (sLen+m) sCap) (w.setRow q (cur.toList.take (sLen*i.size)++news++cur.toList.drop (sLen*i.size+news.length)).toArray):=by
 have hf:=run_firstCells_some (P:=P) w i.size m ad m c news hl hnews;have hst:=run_storeCells_at P q (sLen*i.size) e' news 0 cur w hg (by omega) h1;simp only[zcA]at hst;simp[Builtin.append_,run_underlying ht,sizeOf,typeInfo,hi,Builtin.lenOf,hroom,hf,add_lit,hst]
theorem ycZ(t ty e:TypeId)(i:TypeInfo)(ht:P.underlying t=some (.slice e))(hi:P.info? e=some i)(A:Option Addr)(n cap c:Nat)(hn:n<=cap):
 (Builtin.append_ #[t,t] ty #[.slice A n cap,.slice none 0 c]).run P w=.ok (.slice A n cap) w:=by
 cases A<;>simp[Builtin.append_,run_underlying ht,sizeOf,typeInfo,hi,Builtin.lenOf,Builtin.firstCells,hn,storeCells]
theorem yfR(t ty e:TypeId)(i:TypeInfo)(ht:P.underlying t=some (.slice e))(hi:P.info? e=some i)(A0:Option Addr)(ad:Addr)(c:Nat):
 (Builtin.append_ #[t,t] ty #[.slice A0 0 0,.slice (some ad) 0 c]).run P w=.ok (.slice A0 0 0) w:=by
 cases A0<;>simp[Builtin.append_,run_underlying ht,sizeOf,typeInfo,hi,Builtin.lenOf,Builtin.firstCells,loadCells,loadCellsFrom,storeCells]
theorem yDL{G:Nat->Prop}{k:Nat}{rows new:List (List C)}{olds news rest:List Value}(ho:olds.length=rows.length*k)(h1:∀(i:Nat) (r:List C) (j:Nat) (c:C),rows[i]?=some r->r[j]?=some c->∃u,olds[i*k+j]?=some u/\Rd w G u c)
 (h2:∀(i:Nat) (r:List C) (j:Nat) (c:C),new[i]?=some r->r[j]?=some c->∃u,news[i*k+j]?=some u/\Rd w G u c):
 ∀(i:Nat) (r:List C) (j:Nat) (c:C),(rows++new)[i]?=some r->r[j]?=some c->∃u,(olds++news++rest)[i*k+j]?=some u/\Rd w G u c:=by
 intro i r j c hr hc
 by_cases hi:i<rows.length
 .grind
 .rw[zaz (by omega)]at hr;obtain⟨u,hu,hru⟩:=h2 _ r j c hr hc;have hlt:(i-rows.length)*k+j<news.length:=(zaa.1 hu).1
  have e1:i*k+j=olds.length+((i-rows.length)*k+j):=by
   rw[ho,Nat.sub_mul];have:rows.length*k<=i*k:=zaq _ (by omega);omega
  grind
theorem yD4{G:Nat->Prop}{k:Nat}{rows new:List (List C)}{olds news:List Value}{z:Array Value}{cap:Nat}(ho:olds.length=rows.length*k)(hn:news.length=new.length*k)(hz:z.size=k)(hcap:rows.length+new.length<=cap)
 (hro:∀r,r∈rows->r.length=k) (hrn:∀r,r∈new->r.length=k)
 (h1:∀(i:Nat) (r:List C) (j:Nat) (c:C),rows[i]?=some r->r[j]?=some c->∃u,olds[i*k+j]?=some u/\Rd w G u c)
 (h2:∀(i:Nat) (r:List C) (j:Nat) (c:C),new[i]?=some r->r[j]?=some c->∃u,news[i*k+j]?=some u/\Rd w G u c):
 (olds.toArray++news.toArray++Builtin.zeroCells z (cap-(rows.length+new.length))).size=cap*k/\(rows++new).length*k<=(olds.toArray++news.toArray++Builtin.zeroCells z (cap-(rows.length+new.length))).size/\
 (∀r,r∈rows++new->r.length=k)/\
 ∀(i:Nat) (r:List C) (j:Nat) (c:C),(rows++new)[i]?=some r->r[j]?=some c->∃u,(olds.toArray++news.toArray++Builtin.zeroCells z (cap-(rows.length+new.length)))[i*k+j]?=some u/\Rd w G u c:=by
 have hsz:(olds.toArray++news.toArray++Builtin.zeroCells z (cap-(rows.length+new.length))).size=cap*k:=by
  simp only[zdb,zdA,size_zeroCells,hz,ho,hn,<-zbB]
  grind
 refine⟨hsz,?_,λr hr=>?_,λi r j c hr hc=>?_⟩
 .simp_all [zaq]
 .grind
 .obtain⟨u,hu,hru⟩:=yDL (rest:=(Builtin.zeroCells z (cap-(rows.length+new.length))).toList) ho h1 h2 i r j c hr hc
  grind
theorem yyg{G G':Nat->Prop}{w':World}{k:Nat}{rows:List (List C)}{f:Nat->Option Value}(hm:∀u c,Rd w G u c->Rd w' G' u c)
 (h1:∀(i:Nat) (r:List C) (j:Nat) (c:C),rows[i]?=some r->r[j]?=some c->∃u,f (i*k+j)=some u/\Rd w G u c):
 ∀(i:Nat) (r:List C) (j:Nat) (c:C),rows[i]?=some r->r[j]?=some c->∃u,f (i*k+j)=some u/\Rd w' G' u c:=by
 grind
theorem ygp{t ty e:TypeId}{i:TypeInfo}{z:Value}(ht:P.underlying t=some (.slice e))(hi:P.info? e=some i)(hz:i.zero=some z)(hsz:z.cells.size=i.size)(hby:0<i.bytes)
 {v:Value} {hb:Option Nat} {n:Nat} {olds:List Value}
 (hv:(hb=none/\(∃A0,v=.slice A0 0 0)/\n=0/\olds=[])\/∃b cap arr e',hb=some b/\v=.slice (some ⟨b,0,none⟩) n cap/\w.heap[b]?=some (.cells arr e' (0,0))/\n<=cap/\cap<=maxLen/\cap*i.size<=arr.size/\olds=arr.toList.take (n*i.size))
 {A:Option Addr} {m c:Nat} (hA:A=none->m=0) {news:List Value} (hn0:A=none->news=[]) (hnl:news.length=m*i.size) (hnews:∀ad,A=some ad->∀j u,news[j]?=some u->w.cell? (ad.add j)=some u) (hone:∀u∈news,u.oneCell'=true)
 (hbig:(n+m)*i.bytes<=140737488355328):
 ∃ (r:Value) (w':World) (X:Nat->Prop),(Builtin.append_ #[t,t] ty #[v,.slice A m c]).run P w=.ok r w'/\Off X w w'/\(∀q,X q->hb=some q)/\
  ((hb=none/\(∃A0,r=.slice A0 0 0)/\n+m=0/\w'=w)\/∃b' cap' arr' e'',r=.slice (some ⟨b',0,none⟩) (n+m) cap'/\w'.heap[b']?=some (.cells arr' e'' (0,0))/\n+m<=cap'/\cap'<=maxLen/\cap'*i.size<=arr'.size/\
   (hb=some b'\/(w.heap.size<=b'/\b'<w'.heap.size))/\∀(q:Nat) (u:Value),(olds++news)[q]?=some u->arr'[q]?=some u):=by
 have hlen:n+m<=maxLen:=by
  have:=zba (zcQ (n+m) hby) hbig
  grind [maxLen]
 rcases hv with⟨rfl,⟨A0,rfl⟩,rfl,rfl⟩|⟨b,cap,arr,e',rfl,rfl,h3,h1,h2,h4,rfl⟩
 .rcases zaB m with h0|h0
  .subst h0;refine⟨.slice A0 0 0,w,noF,?_,Off.refl _ _,λq hq=>hq.elim,.inl ⟨rfl,⟨A0,rfl⟩,rfl,rfl⟩⟩;cases A with
   |none=>grind [ycZ]
   |some ad=>grind [yfR]
  .cases A with
   |none=>grind
   | some ad=>
    simp only[zbp]at hlen hbig|-
    have hr:(Builtin.append_ #[t,t] ty #[.slice A0 0 0,.slice (some ad) m c]).run P w=.ok (.slice (some ⟨w.heap.size,0,none⟩) m (grownCap w m 0 e)) (w.drew.alloc (.cells (news.toArray++Builtin.zeroCells z.cells (grownCap w m 0 e-m)) e)):=by
     cases A0 with
     |none=>grind [run_append_nil,maxLen]
     |some bd=>
      have:=run_append_grow (P:=P) w t ty e i z ht hi hz bd 0 0 [] (by simp) (by simp) ad m c news hnl (hnews ad rfl) (by omega) (by grind [maxLen]) (growslice_fits (by omega) (by grind))
      grind
    have hcap:=grownCap_ge w m 0 e;have hcapm:=grownCap_le_maxLen w m 0 e hlen;have hnew:=heap_alloc_new w.drew (.cells (news.toArray++Builtin.zeroCells z.cells (grownCap w m 0 e-m)) e);refine⟨_,_,noF,hr,(Off.refl noF w).drew.alloc _,λq hq=>hq.elim,.inr ⟨w.heap.size,_,_,e,rfl,hnew,hcap,hcapm,?_,.inr ⟨Nat.le_refl _,by simp⟩,λq u hu=>?_⟩⟩
    .simp only[zdb,zdA,size_zeroCells,hsz,hnl,<-zbB]
     grind
    grind
 .have hle:n*i.size<=arr.size:=zba (zaq _ h1) h4;have hol:(arr.toList.take (n*i.size)).length=n*i.size:=by grind
  have hold:∀(q:Nat) (u:Value),(arr.toList.take (n*i.size))[q]?=some u->arr[q]?=some u:=by
   grind
  cases A with
  |none=>
   have hm:=hA rfl;subst hm;have hr:=ycZ (P:=P) (w:=w) t ty e i ht hi (some ⟨b,0,none⟩) n cap c h1;refine⟨_,_,noF,hr,Off.refl _ _,λq hq=>hq.elim,.inr ⟨b,cap,arr,e',rfl,h3,h1,h2,h4,.inl rfl,λq u hu=>?_⟩⟩
   grind
  | some ad=>
   by_cases hroom:n+m<=cap
   .have hfit0:(n+m)*i.size<=arr.size:=zba (zaq _ hroom) h4;have hfit:n*i.size+news.length<=arr.size:=by grind
    have hr:=yp1 (P:=P) (w:=w) t ty e e' i ht hi b n cap arr h3 ad m c news hnl (hnews ad rfl) hone hroom hfit;have hset:=setRow_heap w b arr (arr.toList.take (n*i.size)++news++arr.toList.drop (n*i.size+news.length)).toArray e' (0,0) h3
    grind [yhx]
   .have hr:=run_append_grow (P:=P) w t ty e i z ht hi hz ⟨b,0,none⟩ n cap _ hol (λj u hu=>by
     grind [add_lit,cell_of]) ad m c news hnl (hnews ad rfl) (by omega) (by grind [maxLen]) (growslice_fits (by omega) hbig)
    have hcap:=grownCap_ge w (n+m) cap e;have hcapm:=grownCap_le_maxLen w (n+m) cap e hlen;have hnew:=heap_alloc_new w.drew (.cells ((arr.toList.take (n*i.size)).toArray++news.toArray++Builtin.zeroCells z.cells (grownCap w (n+m) cap e-(n+m))) e);refine⟨_,_,noF,hr,(Off.refl noF w).drew.alloc _,λq hq=>hq.elim,.inr ⟨w.heap.size,_,_,e,rfl,hnew,hcap,hcapm,?_,.inr ⟨Nat.le_refl _,by simp⟩,λq u hu=>?_⟩⟩
    .simp only[zdb,zdA,size_zeroCells,hsz,hnl,hol,<-zbB]
     grind
    grind
theorem Repr.append(h:Repr g s a w blk)(fl:Bool){t k:Nat}{ids:List Nat}{rows new:List (List C)}{olds news:List Value}{w':World}{X:Nat->Prop}{Fo Fn:Nat->Nat->Nat->Prop}{r:Value}{hb:Option Nat}
 (ht:t∈ids\/s.yRU t=.none) (hol:olds.length=rows.length*k) (hro:∀r,r∈rows->r.length=k) (hrn:∀r,r∈new->r.length=k)
 (ho:∀(i:Nat) (r:List C) (j:Nat) (c:C),rows[i]?=some r->r[j]?=some c->∃u,olds[i*k+j]?=some u/\yio fl w (Good g s.yRU blk w) u c (Fo i j))
 (hn:∀(i:Nat) (r:List C) (j:Nat) (c:C),new[i]?=some r->r[j]?=some c->∃u,news[i*k+j]?=some u/\yio fl w (Good g s.yRU blk w) u c (Fn i j))
 (hbo:∀q,hb=some q->∃i0,i0∈ids/\s.yRU i0≠.none/\blk.root i0=some q)
 (hFo:∀i j x,Fo i j x->∃i0,i0∈ids/\s.yRU i0≠.none/\blk.sub i0 x) (hFn:∀i j x,Fn i j x->∃i0,i0∈ids/\s.yRU i0≠.none/\blk.sub i0 x)
 (dOO:∀i j i' j' x,Fo i j x->Fo i' j' x->i=i'/\j=j') (dNN:∀i j i' j' x,Fn i j x->Fn i' j' x->i=i'/\j=j') (dON:∀i j i' j' x,Fo i j x->Fn i' j' x->False)
 (hoff:Off X w w') (hX:∀q,X q->hb=some q)
 (hview:(hb=none/\(∃A0,r=.slice A0 0 0)/\rows.length+new.length=0/\w'=w)\/∃b' cap' arr' e'',r=.slice (some ⟨b',0,none⟩) (rows.length+new.length) cap'/\w'.heap[b']?=some (.cells arr' e'' (0,0))/\rows.length+new.length<=cap'/\cap'<=maxLen/\cap'*k<=arr'.size/\
  (hb=some b'\/(w.heap.size<=b'/\b'<w'.heap.size))/\∀(q:Nat) (u:Value),(olds++news)[q]?=some u->arr'[q]?=some u):
 ∃L':Lay,Repr g ⟨λq=>(s.env q).kills ids,upd t (mkO fl k (rows++new)) (s.drops ids).yRU⟩ a w' L'/\
  ∀G' (O':Nat->Obj),O' t=mkO fl k (rows++new)->RV w' G' O' L' r (.own t k (rows.length+new.length)):=by
 have hup:∀(o':Obj) j,upd t o' (s.drops ids).yRU j=if j=t then o' else(s.drops ids).yRU j:=λ_ _=>rfl
 have hsub:∀x,(∃i0,i0∈ids/\s.yRU i0≠.none/\blk.sub i0 x)->x<w.heap.size/\¬X x/\∀q,hb=some q->x≠q:=by
  rintro x ⟨i0,m1,m2,m3⟩
  have hq:∀q,hb=some q->x≠q:=by
   rintro q hq rfl
   obtain⟨i1,n1,n2,n3⟩:=hbo x hq;have:=h.inj i0 i1 x m2 n2 (.inr m3) (.inl n3);subst this;exact h.apart i0 x m2 n3 m3
  exact⟨(h.new i0 x m2 (.inr m3)).2,λhx=>hq x (hX x hx) rfl,hq⟩
 have common:∀(root:Option Nat) (S:Nat->Prop),
  (∀x,(root=some x\/S x)->(∃i0,i0∈ids/\s.yRU i0≠.none/\blk.fp i0 x)\/(w.heap.size<=x/\x<w'.heap.size))->(∀x,root=some x->¬S x)->
  (∀G' objs',Keeps w w' (Good g s.yRU blk w) G' (ybg s.yRU ids) objs' blk (blk.upd t root S)->jU w' G' objs' (blk.upd t root S) S root (mkO fl k (rows++new)))->
  Repr g ⟨λq=>(s.env q).kills ids,upd t (mkO fl k (rows++new)) (s.drops ids).yRU⟩ a w' (blk.upd t root S):=by
  intro root S horg hap hok;refine h.turn ids (λj=>j=t) hoff (λy hy=>?_) (λj hj=>?_) (λj y hj _ hf=>?_) (λj j' y hj hj' _ _ _ _=>hj.trans hj'.symm) (λj y hj _ hr'=>?_) (λj hj hm hl=>?_) (λj k' v' rows' hj hm hk=>?_) (λG' K j hj=>?_)
  .obtain⟨i0,m1,m2,m3⟩:=hbo y (hX y hy);exact⟨i0,.inr m1,m2,.inl m3⟩
  .exact⟨by rw[hup,if_neg hj,St.pV],by rw[Lay.eH,if_neg hj],by grind [Lay.oN]⟩
  .subst hj;rw[Lay.ypg,if_pos rfl]at hf;rcases horg y hf with⟨i0,m1,m2,m3⟩|h2
   .exact .inl ⟨i0,.inr m1,m2,m3⟩
   .exact .inr h2
  .subst hj;rw[Lay.eH,if_pos rfl]at hr';rw[Lay.oN,if_pos rfl];exact hap y hr'
  .subst hj;exact absurd (ht.resolve_left hm) hl
  .subst hj;rw[ht.resolve_left hm]at hk;cases hk
  .subst hj;rw[hup,if_pos rfl,Lay.eH,if_pos rfl,Lay.oN,if_pos rfl]
   grind
 rcases hview with⟨hbn,⟨A0,rfl⟩,h0,rfl⟩|⟨b',cap',arr',e'',rfl,v1,v2,v3,v4,v5,v6⟩
 .have hr0:rows=[]:=zbM (by omega);have hn0:new=[]:=zbM (by omega);subst hr0;subst hn0;refine⟨blk.upd t none noF,common none noF (λx hx=>hx.elim (λh=>by cases h) (λh=>h.elim)) (λx hx=>by cases hx) (λG' objs' K=>?_),λG' O' hO=>?_⟩
  .cases fl
   .exact .inl ⟨rfl,rfl⟩
   .exact .inl ⟨rfl,rfl⟩
  .exact⟨0,by rw[hO,ys3];rfl,by simp,.inl ⟨by show(blk.upd _ _ _).root t=_;grind [Lay.eH],rfl,A0,rfl⟩⟩
 .have hb'ne:∀x,(∃i0,i0∈ids/\s.yRU i0≠.none/\blk.sub i0 x)->x≠b':=by
   rintro x hx rfl
   rcases v5 with h5|h5
   .exact(hsub x hx).2.2 x h5 rfl
   .have:=(hsub x hx).1;omega
  let Fs:Nat->Nat->Nat->Prop:=λi j=>if i<rows.length then Fo i j else Fn (i-rows.length) j
  have hFs:∀i j x,Fs i j x->∃i0,i0∈ids/\s.yRU i0≠.none/\blk.sub i0 x:=by
   intro i j x hx;simp only[Fs]at hx;split at hx
   .exact hFo _ _ _ hx
   .exact hFn _ _ _ hx
  have cells:∀(i:Nat) (r:List C),(rows++new)[i]?=some r->∀(j:Nat) (c:C),r[j]?=some c->∃u,arr'[i*k+j]?=some u/\yio fl w (Good g s.yRU blk w) u c (Fs i j):=by
   intro i r hr j c hc
   by_cases hi:i<rows.length
   .rw[zaX hi]at hr;obtain⟨u,hu,hru⟩:=ho i r j c hr hc;have hq:=(zaa.1 hu).1;exact⟨u,v6 _ u (by rw[zaX hq];exact hu),by simp only[Fs];rw[if_pos hi];exact hru⟩
   .rw[zaz (by omega)]at hr;obtain⟨u,hu,hru⟩:=hn _ r j c hr hc
    have e1:i*k+j=olds.length+((i-rows.length)*k+j):=by
     rw[hol,Nat.sub_mul];have:rows.length*k<=i*k:=zaq _ (by omega);omega
    exact⟨u,v6 _ u (by rw[e1,zaz (by omega),zct];exact hu),by simp only[Fs];rw[if_neg hi];exact hru⟩
  have lens:∀r,r∈rows++new->r.length=k:=by
   intro r hr;rcases zaj.1 hr with h1|h1
   .exact hro r h1
   .exact hrn r h1
  have hsz:(rows++new).length*k<=arr'.size:=zba (zaq _ (by rw[zah];exact v2)) v4;refine⟨blk.upd t (some b') (λx=>∃i0,i0∈ids/\s.yRU i0≠.none/\blk.sub i0 x),common (some b') _ (λx hx=>?_) (λx hx hs=>by cases hx;exact hb'ne _ hs rfl) (λG' objs' K=>?_),λG' O' hO=>?_⟩
  .rcases hx with hx|⟨i0,m1,m2,m3⟩
   .cases hx;rcases v5 with h5|h5
    .obtain⟨i0,m1,m2,m3⟩:=hbo _ h5;exact .inl ⟨i0,m1,m2,.inl m3⟩
    .exact .inr h5
   .exact .inl ⟨i0,m1,m2,.inr m3⟩
  .cases fl
   .refine .inr ⟨b',arr',e'',rfl,v1,hsz,lens,λi j=>(arr'[i*k+j]?).getD undef,Fs,λi j x hx=>⟨hFs i j x hx,hb'ne x (hFs i j x hx)⟩,λi j i' j' x hx hx'=>?_,λi r hr j c hc=>?_,λi r hr j c hc=>?_⟩
    .simp only[Fs]at hx hx';split at hx<;>split at hx'
     .exact dOO _ _ _ _ x hx hx'
     .exact(dON _ _ _ _ x hx hx').elim
     .exact(dON _ _ _ _ x hx' hx).elim
     .have:=dNN _ _ _ _ x hx hx';omega
    .obtain⟨u,hu,_⟩:=cells i r hr j c hc;dsimp only;rw[hu];rfl
    .obtain⟨u,hu,hru⟩:=cells i r hr j c hc;dsimp only;rw[hu];exact(yio.ot hru).mono K.good K.cell (λ_ h=>h) λx hx=>hoff.block x (hsub x (hFs i j x hx)).1 (hsub x (hFs i j x hx)).2.1
   .refine .inr ⟨b',arr',e'',rfl,v1,hsz,lens,λi r j c hr hc=>?_⟩;obtain⟨u,hu,hru⟩:=cells i r hr j c hc;exact⟨u,hu,Rd.mono hru K.good K.cell⟩
  .exact⟨rows.length+new.length,by rw[hO,ys3,zah],Nat.le_refl _,.inr ⟨b',cap',arr',e'',by show(blk.upd _ _ _).root t=_;grind [Lay.eH],rfl,v2,v3,v1,v4⟩⟩
theorem yGE{fl:Bool}{G:Nat->Prop}{k:Nat}{new:List (List C)}{news:List Value}{Fn:Nat->Nat->Nat->Prop}(n1:news.length=new.length*k)(hrn:∀r,r∈new->r.length=k)
 (n3:∀(i:Nat) (r:List C) (j:Nat) (c:C),new[i]?=some r->r[j]?=some c->∃u,news[i*k+j]?=some u/\yio fl w G u c (Fn i j)):∀u∈news,u.oneCell'=true:=by
 intro u hu;obtain⟨j,hj⟩:=zat hu;have hj1:j<new.length*k:=by grind
 have hk:0<k:=by grind
 have hq:j/k<new.length:=zdS (by grind);have hm:j%k<(new[j/k]).length:=by simp_all [zes]
 obtain⟨u',hu',hru⟩:=n3 _ _ (j%k) _ (zab hq) (zab hm);rw[show j/k*k+j%k=j from by grind [Nat.div_add_mod],hj]at hu';cases hu';exact hru.ot.one
theorem yzM.news{fl:Bool}{G:Nat->Prop}{v:Value}{k:Nat}{new:List (List C)}{Fn:Nat->Nat->Nat->Prop}(h:yzM fl w G v k new Fn):
 ∃A c,∃news:List Value,v=.slice A new.length c/\(A=none->new.length=0)/\(A=none->news=[])/\news.length=new.length*k/\(∀ad,A=some ad->∀j u,news[j]?=some u->w.cell? (ad.add j)=some u)/\(∀u∈news,u.oneCell'=true)/\(∀r,r∈new->r.length=k)/\
  ∀(i:Nat) (r:List C) (j:Nat) (c:C),new[i]?=some r->r[j]?=some c->∃u,news[i*k+j]?=some u/\yio fl w G u c (Fn i j):=by
 obtain⟨A,c,hv,h0,hrn,hA⟩:=h;cases A with
 |none=>
  simp_all
 |some ad=>
  obtain⟨news,n1,n2,n3⟩:=hA ad rfl;exact⟨some ad,c,news,hv,λe=>(by cases e),λe=>(by cases e),n1,λad' e=>(by grind),yGE n1 hrn n3,hrn,n3⟩
theorem yo1(h:Repr g s a w blk){id k n:Nat}{v:Value}(hv:RVs g s w blk v (.own id k n)){rows:List (List C)}(fl:Bool)(hO:s.ob id=.row k rows\/(fl=false/\∃ver,s.ob id=.tr k ver rows))(hn:n=rows.length):
 ∃(hb:Option Nat) (olds:List Value) (Fo:Nat->Nat->Nat->Prop),((hb=none/\(∃A0,v=.slice A0 0 0)/\n=0/\olds=[])\/∃b cap arr e',hb=some b/\v=.slice (some ⟨b,0,none⟩) n cap/\w.heap[b]?=some (.cells arr e' (0,0))/\n<=cap/\cap<=maxLen/\cap*k<=arr.size/\olds=arr.toList.take (n*k))/\
  olds.length=rows.length*k/\(∀r,r∈rows->r.length=k)/\(∀(i:Nat) (r:List C) (j:Nat) (c:C),rows[i]?=some r->r[j]?=some c->∃u,olds[i*k+j]?=some u/\yio fl w (Good g s.yRU blk w) u c (Fo i j))/\
  (∀q,hb=some q->blk.root id=some q)/\(∀i j x,Fo i j x->blk.sub id x)/\(∀i j i' j' x,Fo i j x->Fo i' j' x->i=i'/\j=j'):=by
 subst hn;obtain⟨m,hdim,hn,hval⟩:=hv;rcases hval with⟨hb,h0,A0,rfl⟩|⟨b,cap,arr,e,hb,rfl,h1,h2,h3,h4⟩
 .have:rows=[]:=zbM h0;subst this;exact⟨none,[],λ_ _=>noF,.inl ⟨rfl,⟨A0,rfl⟩,rfl,rfl⟩,by simp,by simp,λi r j c hr=>by grind,λq hq=>(by grind),λ_ _ _ h=>h.elim,λ_ _ _ _ _ h=>h.elim⟩
 .have hle:rows.length*k<=arr.size:=zba (zaq _ h1) h4
  have get:∀(i:Nat) (r:List C) (j:Nat) (c:C) (u:Value),rows[i]?=some r->r[j]?=some c->r.length=k->arr[i*k+j]?=some u->(arr.toList.take (rows.length*k))[i*k+j]?=some u:=by
   intro i r j c u hr hc hk hu;have hi2:i<rows.length:=(zaa.1 hr).1;have hj2:j<k:=by grind
   have h5:(i+1)*k<=rows.length*k:=zaq _ hi2
   grind
  rcases hO with hO|⟨hfl,ver,hO⟩
  .obtain⟨arr',e',r1,r2,r3,r4⟩:=h.row hO hb;rw[h3]at r1;cases r1;refine⟨some b,_,λ_ _=>noF,.inr ⟨b,cap,arr,e,rfl,rfl,h3,h1,h2,h4,rfl⟩,by grind,r3,λi r j c hr hc=>?_,λq hq=>by grind,λ_ _ _ h=>h.elim,λ_ _ _ _ _ h=>h.elim⟩;obtain⟨u,hu,hru⟩:=r4 i r j c hr hc;exact⟨u,get i r j c u hr hc (r3 r (zac hr)) hu,.yI8 hru⟩
  .subst hfl;obtain⟨arr',e',r1,r2,r3,vals,Fs,r4,r5,r6,r7⟩:=h.tree hO hb;rw[h3]at r1;cases r1;refine⟨some b,_,Fs,.inr ⟨b,cap,arr,e,rfl,rfl,h3,h1,h2,h4,rfl⟩,by grind,r3,λi r j c hr hc=>?_,λq hq=>by grind,λi j x hx=>(r4 i j x hx).1,r5⟩;exact⟨_,get i r j c _ hr hc (r3 r (zac hr)) (r6 i r hr j c hc),r7 i r hr j c hc⟩
theorem yuh(s:St)(id:Nat)(o:Obj):(⟨λq=>(s.env q).kills [id],upd id o (s.drops [id]).yRU⟩:St)=s.renew id o:=by
 unfold St.renew
 congr 1
 funext i
 unfold upd;split
 .rfl
 .rename_i hi
  show(s.drop id).yRU i=_
  simp_all [St.drop,St.renew,upd]
theorem ywf(s:St)(id idy:Nat)(hne:id≠idy)(o:Obj):(⟨λq=>(s.env q).kills [idy,id],upd id o (s.drops [idy,id]).yRU⟩:St)=(s.drop idy).renew id o:=by
 unfold St.renew
 congr 1
 funext i
 unfold upd;split
 .rfl
 .rename_i hi
  show((s.drop idy).drop id).yRU i=_
  simp_all [St.drop,St.renew,upd]
theorem Repr.yJZ(h:Repr g s a w blk){id k0 ver:Nat}{rows:List (List C)}(hO:s.ob id=.tr k0 ver rows){i:Int}{j k n:Nat}{v:Value}(hv:RVs g s w blk v (.sub id ver i j k n)){c:C}(hc:cellAt rows i.toNat j=some c)(fl:Bool){rs:List (List C)}(hcs:c=(if fl then .ow k rs else .ot k rs)){d:Nat}(hd:(s.ob d).isNone=true):
 ∃L':Lay,Repr g ⟨s.env,upd d (mkO fl k rs) (upd id (.tr k0 (ver+1) (setAt rows i.toNat j .jk)) s.yRU)⟩ a w L'/\∀G' (O':Nat->Obj),O' d=mkO fl k rs->RV w G' O' L' v (.own d k rs.length):=by
 obtain⟨q,r,c',A,cap,F,e1,e2,e3,e4,e5,rfl,e6,e7,e8,e9⟩:=h.sub0 hO hv;obtain⟨r',f1,f2⟩:=ycF hc;rw[e3]at f1;cases f1;rw[e4]at f2;cases f2;have hO':s.yRU id=.tr k0 ver rows:=hO;have hlive:s.yRU id≠.none:=by grind
 have hd':s.yRU d=.none:=yaa hd;have hne:d≠id:=by grind
 obtain⟨arr0,e0,t1,t2,t3,vals0,Fs0,t4,t5,t6,t7⟩:=h.tree hO e1;have hrl:r.length=k0:=t3 r (zac e3);have hjr:j<r.length:=(zaa.1 e4).1;have hir:i.toNat<rows.length:=(zaa.1 e3).1;have hgr:rows.getD i.toNat []=r:=by grind
 have hcell:=t6 _ _ e3 _ _ e4;rw[cell_of w t1,hcell]at e2;have hot:=t7 _ _ e3 _ _ e4;rw[Option.some.inj e2]at hot
 -- the block of the slice,and what its cells own
 obtain⟨root,S,hrS,hobj,hrv⟩:∃(root:Option Nat) (S:Nat->Prop),(∀x,(root=some x\/S x)->Fs0 i.toNat j x)/\
  (∀G' (O':Nat->Obj) (bl:Nat->Option Nat),(∀b,Good g s.yRU blk w b->G' b)->(∀x,root=some x->¬S x)/\jU w G' O' bl S root (mkO fl k rs))/\
  (∀G' (O':Nat->Obj) (bl:Nat->Option Nat),O' d=mkO fl k rs->bl d=root->RV w G' O' bl (.slice A n cap) (.own d k rs.length)):=by
  have hnl:n=rs.length:=by grind [C.sz]
  cases fl with
  | true=>
   simp only[if_true]at hcs;subst hcs;cases hot with
   |sh h=>cases h
   |ow0=>
    exact⟨none,noF,λx hx=>hx.elim (λh=>by cases h) (λh=>h.elim),λG' O' bl _=>⟨λx hx=>(by grind),.inl ⟨rfl,rfl⟩⟩,λG' O' bl hO hb=>⟨0,by rw[hO];rfl,Nat.le_refl _,.inl ⟨hb,rfl,_,rfl⟩⟩⟩
   |ow vals h1 h2 h3 h4 h5 h6 h7 h8 h9=>
    rename_i b arr e;subst h2;refine⟨some b,noF,λx hx=>hx.elim (λh=>by grind) (λh=>h.elim),λG' O' bl hG=>⟨λx hx h=>h,.inr ⟨b,arr,e,rfl,h1,zba (zaq _ h3) h5,h6,λi r j c hr hc=>⟨_,h8 i r hr j c hc,(h9 i r hr j c hc).mono hG (λ_ _ _ h=>h)⟩⟩⟩,λG' O' bl hO hb=>?_⟩;exact⟨rs.length,by rw[hO];rfl,Nat.le_refl _,.inr ⟨b,cap,arr,e,hb,rfl,h3,h4,h1,h5⟩⟩
  | false=>
   simp only[if_false,zbQ]at hcs;subst hcs;cases hot with
   |sh h=>cases h
   |ot0=>
    exact⟨none,noF,λx hx=>hx.elim (λh=>by cases h) (λh=>h.elim),λG' O' bl _=>⟨λx hx=>(by grind),.inl ⟨rfl,rfl⟩⟩,λG' O' bl hO hb=>⟨0,by rw[hO];rfl,Nat.le_refl _,.inl ⟨hb,rfl,_,rfl⟩⟩⟩
   |ot vals Fs h1 h2 h3 h4 h5 h6 h7 h8 h9 h10 h11=>
    rename_i b arr e;subst h2;refine⟨some b,λx=>∃i j,Fs i j x,λx hx=>?_,λG' O' bl hG=>⟨λx hx ⟨i,j,hs⟩=>?_,.inr ⟨b,arr,e,rfl,h1,zba (zaq _ h3) h5,h6,vals,Fs,λi j x hx=>⟨⟨i,j,hx⟩,(h8 i j x hx).2⟩,h9,h10,λi r hr j c hc=>(h11 i r hr j c hc).mono hG (λ_ _ _ h=>h) (λ_ h=>h) (λ_ _=>rfl)⟩⟩,λG' O' bl hO hb=>?_⟩
    .grind
    .grind
    .exact⟨rs.length,by rw[hO];rfl,Nat.le_refl _,.inr ⟨b,cap,arr,e,hb,rfl,h3,h4,h1,h5⟩⟩
 have hup:∀x,upd d (mkO fl k rs) (upd id (.tr k0 (ver+1) (setAt rows i.toNat j .jk)) s.yRU) x=if x=d then mkO fl k rs else if x=id then .tr k0 (ver+1) (setAt rows i.toNat j .jk)else s.yRU x:=λ_=>rfl
 let L':Lay:=(blk.upd id (blk.root id) (λx=>blk.sub id x/\¬Fs0 i.toNat j x)).upd d root S
 have Ld:L'.root d=root/\L'.sub d=S:=⟨by grind [Lay.eH],by grind [Lay.oN]⟩;have Li:L'.root id=blk.root id/\L'.sub id=λx=>blk.sub id x/\¬Fs0 i.toNat j x:=⟨by grind [Lay.eH],by grind [Lay.oN]⟩;have hFsub:∀x,Fs0 i.toNat j x->blk.sub id x:=λx hx=>(t4 _ _ x hx).1;refine⟨L',h.turn [] (λx=>x=d\/x=id) (Off.refl noF w) (λx hx=>hx.elim) (λx hx=>?_) (λx y hx _ hf=>?_) (λx y z hx hy hlx hly hfx hfy=>?_) (λx y hx _ hr=>?_) (λx hx _ hl=>?_) (λx k' v' rows' hx _ hk=>?_) (λG' K x hx=>?_),λG' O' hO=>hrv G' O' L' hO Ld.1⟩
 .grind [Obj.yTq,Lay.eH,Lay.oN]
 .grind [Lay.fp]
 .grind [Lay.fp]
 .rcases hx with rfl|rfl
  .rw[Ld.1]at hr;rw[Ld.2];exact(hobj (Good g s.yRU blk w) s.yRU blk (λ_ h=>h)).1 y hr
  .rw[Li.1]at hr;rw[Li.2]
   exactλhs=>h.apart x y hlive hr hs.1
 .rcases hx with rfl|rfl
  .grind
  .rw[hup,if_neg (Ne.symm hne),if_pos rfl,hO',Li.1];exact⟨⟨rfl,by simp[setAt],by omega,λe=>by omega⟩,rfl⟩
 .grind
 .rcases hx with rfl|rfl
  .rw[hup,if_pos rfl,Ld.1,Ld.2];exact(hobj _ _ _ K.good).2
  .rw [hup,if_neg (Ne.symm hne),if_pos rfl,Li.1,Li.2,e1];refine .inr ⟨q,arr0,e0,rfl,t1,by grind [setAt],λr2 hr2=>?_,vals0,λi2 j2 x=>Fs0 i2 j2 x/\¬(i2=i.toNat/\j2=j),λi2 j2 x hx=>⟨⟨(t4 _ _ x hx.1).1,λhs=>hx.2 (t5 _ _ _ _ x hx.1 hs)⟩,(t4 _ _ x hx.1).2⟩,λi2 j2 i3 j3 x hx hx'=>t5 _ _ _ _ x hx.1 hx'.1,λi2 r2 hr2 j2 c2 hc2=>?_,λi2 r2 hr2 j2 c2 hc2=>?_⟩
   .rcases zaK hr2 with h5|h5<;>grind
   .grind [setAt]
   .have other:∀{i2 j2:Nat} {r2:List C} {c2:C},rows[i2]?=some r2->r2[j2]?=some c2->¬(i2=i.toNat/\j2=j)->OT w G' (vals0 i2 j2) c2 (λx=>Fs0 i2 j2 x/\¬(i2=i.toNat/\j2=j)):=by
     intro i2 j2 r2 c2 hr2 hc2 hne;exact(t7 _ _ hr2 _ _ hc2).mono K.good K.cell (λx hx=>⟨hx,hne⟩) λy hy=>rfl
    unfold setAt at hr2;rw[zaE]at hr2
    by_cases e2':i.toNat=i2
    .subst e2';rw[if_pos rfl,if_pos hir]at hr2;cases hr2;rw[hgr,zaE]at hc2
     by_cases e3':j=j2
     .subst e3';rw[if_pos rfl,if_pos hjr]at hc2;cases hc2;have:=t7 _ _ e3 _ _ e4;exact .jk this.one this.cells
     grind
    grind
theorem yLe (h:Repr g s a w blk) (hd:∀i,o.dst=some i->i<g.N) {t e:TypeId} {i:TypeInfo} {z:Value} {p q:Operand} {xp xq:X} (ho:o.op=.call {callee:=.builtin .append,args:=#[p,q],argTypes:=#[t,t]})
 (ht:P.underlying t=some (.slice e)) (hi:P.info? e=some i) (hz:i.zero=some z) (hsz:z.cells.size=i.size) (hby:0<i.bytes)
 (hp:cxt P t p=some xp) (hq:cxt P t q=some xq) (hK:yjm i.size i.bytes s o.dst (s.ev xp) (s.ev xq) K):iE P g o a w K:=by
 have ep:=h.evt hp;have eq:=h.evt hq
 have run:∀r w',(Builtin.append_ #[t,t] o.type #[a.eval p,a.eval q]).run P w=.ok r w'->(execOp a.eval o).run P w=.ok (.value r) w':=by
  simp_all [execOp,resolve,invoke,builtin]
 unfold yjm at hK;split at hK
 .rename_i new hnew;obtain⟨A,c,news,hA,n0,n0',n1,n2,n3,n4,n5⟩:=(src_ok h eq hnew).news;rw[hA]at run;generalize s.ev xp=vp at hK ep;generalize a.eval p=v at ep run;split at hK
  ·-- nil
   rename_i kn;obtain⟨hb,hK⟩:=hK;cases ep;unfold newP at hK;split at hK
   case h_2=>grind
   rename_i d hdst;obtain⟨hd0,hK⟩:=hK;obtain⟨r,w',X,v1,v2,v3,v4⟩:=ygp (w:=w) (ty:=o.type) ht hi hz hsz hby (v:=.slice none 0 0) (hb:=none) (n:=0) (olds:=[]) (.inl ⟨rfl,⟨none,rfl⟩,rfl,rfl⟩) n0 n0' n1 n2 n3 (by grind) (c:=c);obtain⟨L',hre,hrv⟩:=h.append true (t:=d) (ids:=[]) (rows:=[]) (olds:=[]) (Fo:=λ_ _=>noF) (Fn:=λ_ _=>noF) (.inr (yaa hd0)) (by simp) (by simp) n4 (λi r j c hr=>by grind) n5 (λq hq=>by grind) (λ_ _ _ h=>h.elim) (λ_ _ _ h=>h.elim) (λ_ _ _ _ _ h=>h.elim) (λ_ _ _ _ _ h=>h.elim) (λ_ _ _ _ _ h=>h.elim) v2 v3 (by omega);refine⟨_,_,run _ _ v1,_,L',hK,?_⟩
   have hput:=hre.put (d:=some d) (v:=r) (x:=.own d i.size new.length) (by grind) (by
    have:=hrv (Good g (upd d (mkO true i.size ([]++new)) (s.drops []).yRU) L' w') (upd d (mkO true i.size ([]++new)) (s.drops []).yRU) (by simp[upd]);simp only[zcD,zbf,zbp]at this|-;exact this)
   rw[hdst];exact hput
  ·-- a slice without room behind it
   rename_i k' rows;obtain⟨rfl,h0',hb,hK⟩:=hK;obtain⟨B,n,rfl,hrd⟩:=ep;rcases zaB new.length with hz0|h0
   .have hr0:rows.length=0:=by omega
    have hn0:n=0:=by cases hrd with|sl vals e1 e2 e3 e4 e5 e6 e7=>omega
    subst hn0;have hnn:new=[]:=zbM hz0;have hrr:rows=[]:=zbM hr0;subst hnn;subst hrr
    have hr:(Builtin.append_ #[t,t] o.type #[.slice B 0 0,.slice A 0 c]).run P w=.ok (.slice B 0 0) w:=by
     cases A with
     |none=>grind [ycZ]
     |some ad=>grind [yfR]
    unfold newP at hK;split at hK
    .rename_i d hdst;obtain⟨hd0,hK⟩:=hK;have hv:=h.virt (d:=d) (k:=i.size) true (yaa hd0);refine⟨_,_,run _ _ hr,_,blk.upd d none noF,hK,?_⟩;have hput:=hv.put (d:=some d) (v:=.slice B 0 0) (x:=.own d i.size 0) (by grind) ⟨0,by simp[upd,mkO,Obj.nO],Nat.le_refl _,.inl ⟨by grind [Lay.eH],rfl,B,rfl⟩⟩;rw[hdst];exact hput
    grind
   cases A with
   |none=>grind
   | some ad=>
    have hrows:rows.length=n/\(∀r,r∈rows->r.length=i.size)/\n<=maxLen:=by
     cases hrd with
     |sl vals e1 e2 e3 e4 e5 e6 e7=>grind
    obtain⟨hrl,hro,hnm⟩:=hrows
    have hlen:rows.length+new.length<=maxLen:=by
     have:=zba (zcQ (rows.length+new.length) hby) hb
     grind [maxLen]
    have hold:∃(bd:Addr) (olds:List Value),(B=some bd\/rows=[])/\olds.length=rows.length*i.size/\(∀j u,olds[j]?=some u->w.cell? (bd.add j)=some u)/\
     ∀(i2:Nat) (r:List C) (j:Nat) (c:C),rows[i2]?=some r->r[j]?=some c->∃u,olds[i2*i.size+j]?=some u/\Rd w (Good g s.yRU blk w) u c:=by
     cases B with
     | none=>
      have:rows=[]:=by
       cases hrd with
       |sl vals e1 e2 e3 e4 e5 e6 e7=>
        simp_all
      subst this;simp
     |some bd=>
      obtain⟨olds,o1,o2,o3⟩:=yDp hrd
      grind
    obtain⟨bd,olds,hB,o1,o2,o3⟩:=hold;have hcap:=grownCap_ge w (rows.length+new.length) n e;have hcapm:=grownCap_le_maxLen w (rows.length+new.length) n e hlen;obtain⟨a1,a2,a3,a4⟩:=yD4 (w:=w) (G:=Good g s.yRU blk w) (rows:=rows) (olds:=olds) (cap:=grownCap w (rows.length+new.length) n e) (z:=z.cells) o1 n1 hsz hcap hro n4 o3 n5
    have hr:(Builtin.append_ #[t,t] o.type #[.slice B n n,.slice (some ad) new.length c]).run P w=.ok (.slice (some ⟨w.heap.size,0,none⟩) (rows.length+new.length) (grownCap w (rows.length+new.length) n e))
     (w.drew.alloc (.cells (olds.toArray++news.toArray++Builtin.zeroCells z.cells (grownCap w (rows.length+new.length) n e-(rows.length+new.length))) e)):=by
     subst hrl;rcases hB with rfl|rfl
     .grind [run_append_grow,growslice_fits,maxLen]
     .cases B with
      |none=>
       grind [run_append_nil,maxLen]
      |some bd'=>
       grind [run_append_grow,growslice_fits,maxLen]
    refine yeF h.drew hd (e:=e) (run _ _ hr) ?_ ?_ hK
    .intro w' G' O' blk' KK hh;exact .inr ⟨_,_,_,rfl,hh,a2,a3,yyg (w:=w) (G:=Good g s.yRU blk w) (λu c hr=>(Rd.mono (w':=w.drew) hr (λ_ h=>h) (λ_ _ _ h=>h)).mono KK.good KK.cell) a4⟩
    .intro d G' O' blk' hO hb' hh;exact⟨rows.length+new.length,by grind [Obj.nO],Nat.le_refl _,.inr ⟨_,_,_,_,hb',rfl,hcap,hcapm,hh,by omega⟩⟩
  ·-- a row of the call's own
   rename_i id k' n;split at hK
   .rename_i k2 rows hO;obtain⟨rfl,rfl,hb,hK⟩:=hK
    have hk2:k2=i.size:=by
     obtain⟨m,hdim,_⟩:=ep;have:(s.ob id).nO=some (i.size,m):=hdim
     grind [Obj.nO]
    subst hk2;obtain⟨hb0,olds,Fo,u1,u2,u3,u4,u5,u6,u7⟩:=yo1 h ep true (.inl hO) rfl;have hlive:s.yRU id≠.none:=by rw[show s.yRU id=_ from hO];simp
    obtain⟨r,w',X,v1,v2,v3,v4⟩:=ygp (w:=w) (ty:=o.type) ht hi hz hsz hby u1 n0 n0' n1 n2 n3 hb (c:=c);obtain⟨L',hre,hrv⟩:=h.append true (t:=id) (ids:=[id]) (Fo:=λ_ _=>noF) (Fn:=λ_ _=>noF) (.inl (by simp)) u2 u3 n4 u4 n5 (λq hq=>⟨id,by simp,hlive,u5 q hq⟩) (λ_ _ _ h=>h.elim) (λ_ _ _ h=>h.elim) (λ_ _ _ _ _ h=>h.elim) (λ_ _ _ _ _ h=>h.elim) (λ_ _ _ _ _ h=>h.elim) v2 v3 v4;rw[yuh]at hre;refine⟨_,_,run _ _ v1,_,L',hK,hre.put hd (hrv _ _ ?_)⟩;simp[St.renew,upd,mkO]
   .rename_i k2 ver rows hO;obtain⟨rfl,rfl,hb,hK⟩:=hK
    have hk2:k2=i.size:=by
     obtain⟨m,hdim,_⟩:=ep;have:(s.ob id).nO=some (i.size,m):=hdim
     grind [Obj.nO]
    subst hk2;obtain⟨hb0,olds,Fo,u1,u2,u3,u4,u5,u6,u7⟩:=yo1 h ep false (.inr ⟨rfl,ver,hO⟩) rfl;have hlive:s.yRU id≠.none:=by rw[show s.yRU id=_ from hO];simp
    obtain⟨r,w',X,v1,v2,v3,v4⟩:=ygp (w:=w) (ty:=o.type) ht hi hz hsz hby u1 n0 n0' n1 n2 n3 hb (c:=c);obtain⟨L',hre,hrv⟩:=h.append false (t:=id) (ids:=[id]) (Fo:=Fo) (Fn:=λ_ _=>noF) (.inl (by simp)) u2 u3 n4 u4 (λi r j c hr hc=>let⟨u,hu,hru⟩:=n5 i r j c hr hc;⟨u,hu,hru.ot⟩) (λq hq=>⟨id,by simp,hlive,u5 q hq⟩) (λi j x hx=>⟨id,by simp,hlive,u6 i j x hx⟩) (λ_ _ _ h=>h.elim) u7 (λ_ _ _ _ _ h=>h.elim) (λ_ _ _ _ _ _ h=>h.elim) v2 v3 v4;rw[yuh]at hre;refine⟨_,_,run _ _ v1,_,L',hK,hre.put hd (hrv _ _ ?_)⟩;simp[St.renew,upd,mkO]
   grind
  ·-- a slice in a cell of a tree
   rename_i id ver i' j k' n;split at hK
   case h_2=>grind
   rename_i k0 ver' rows hO;obtain⟨rfl,hK⟩:=hK
   have fin:∀(fl:Bool) (rs:List (List C)) (cc:C),cellAt rows i'.toNat j=some cc->cc=(if fl then .ow i.size rs else .ot i.size rs)->k'=i.size->(rs.length+new.length)*i.bytes<=140737488355328->∀d,o.dst=some d->(s.ob d).isNone=true->
    K (((s.iG id (.tr k0 (ver'+1) (setAt rows i'.toNat j .jk))).renew d (mkO fl i.size (rs++new))).put (some d) (.own d i.size (rs.length+new.length)))->iE P g o a w K:=by
    clear hK;intro fl rs cc hc hcc hk' hb d hdst hd0 hK;subst hk';obtain⟨L1,hr1,hrv1⟩:=h.yJZ hO ep hc fl hcc hd0;have hrv1:=hrv1 (Good g (upd d (mkO fl i.size rs) (upd id (.tr k0 (ver'+1) (setAt rows i'.toNat j .jk)) s.yRU)) L1 w) (upd d (mkO fl i.size rs) (upd id (.tr k0 (ver'+1) (setAt rows i'.toNat j .jk)) s.yRU)) (by simp[upd])
    have hsrc:dI ⟨s.env,upd d (mkO fl i.size rs) (upd id (.tr k0 (ver'+1) (setAt rows i'.toNat j .jk)) s.yRU)⟩ i.size (s.ev xq)=some new:=by
     rw[<-hnew]
     have hob:∀x k3 r3,s.ob x=.row k3 r3->(⟨s.env,upd d (mkO fl i.size rs) (upd id (.tr k0 (ver'+1) (setAt rows i'.toNat j .jk)) s.yRU)⟩:St).ob x=.row k3 r3:=by
      intro x k3 r3 hx;have h1:x≠d:=by grind [yaa]
      have h2:x≠id:=by grind
      show upd d _ _ x=_
      rw[jG,if_neg h1,jG,if_neg h2];exact hx
     revert hnew;cases s.ev xq with
     |own x k3 n3=>
      grind [dI]
     |cut x k3 l3 n3=>
      grind [dI]
     |c y=>intro _;cases y<;>rfl
     |_=>intro _;rfl
    have eq1:=hr1.evt hq;obtain⟨A',c',news',hA',n0,n0',n1,n2,n3,n4,n5⟩:=(src_ok hr1 eq1 hsrc).news;rw[hA]at hA';cases hA'
    have hlive:(⟨s.env,upd d (mkO fl i.size rs) (upd id (.tr k0 (ver'+1) (setAt rows i'.toNat j .jk)) s.yRU)⟩:St).yRU d≠.none:=by
     grind [upd,mkO]
    obtain⟨hb0,olds,Fo,u1,u2,u3,u4,u5,u6,u7⟩:=yo1 hr1 hrv1 fl (by grind [St.ob,upd,mkO]) rfl;obtain⟨r,w',X,v1,v2,v3,v4⟩:=ygp (w:=w) (ty:=o.type) ht hi hz hsz hby u1 n0 n0' n1 n2 n3 hb (c:=c);obtain⟨L',hre,hrv⟩:=hr1.append fl (t:=d) (ids:=[d]) (Fo:=Fo) (Fn:=λ_ _=>noF) (.inl (by simp)) u2 u3 n4 u4 (λi r j c hr hc=>let⟨u,hu,hru⟩:=n5 i r j c hr hc;⟨u,hu,.yI8 hru⟩) (λq hq=>⟨d,by simp,hlive,u5 q hq⟩) (λi j x hx=>⟨d,by simp,hlive,u6 i j x hx⟩) (λ_ _ _ h=>h.elim) u7 (λ_ _ _ _ _ h=>h.elim) (λ_ _ _ _ _ _ h=>h.elim) v2 v3 v4;rw[yuh]at hre
    have hst:(⟨s.env,upd d (mkO fl i.size rs) (upd id (.tr k0 (ver'+1) (setAt rows i'.toNat j .jk)) s.yRU)⟩:St).renew d (mkO fl i.size (rs++new))=(s.iG id (.tr k0 (ver'+1) (setAt rows i'.toNat j .jk))).renew d (mkO fl i.size (rs++new)):=by
     unfold St.renew St.iG
     congr 1
     grind [upd]
    rw[hst]at hre;refine⟨_,_,run _ _ v1,_,L',hK,?_⟩;rw[hdst];exact hre.put (by grind) (hrv _ _ (by simp[St.renew,upd]))
   split at hK
   .rename_i k2 rs hc;obtain⟨hk',hk2,hb,hK⟩:=hK;subst hk2;split at hK
    .rename_i d hdst;exact fin true rs _ hc rfl hk' hb d hdst hK.1 hK.2
    grind
   .rename_i k2 rs hc;obtain⟨hk',hk2,hb,hK⟩:=hK;subst hk2;split at hK
    .rename_i d hdst;exact fin false rs _ hc rfl hk' hb d hdst hK.1 hK.2
    grind
   grind
  grind
 .split at hK
  case h_2=>grind
  rename_i idy new hsrc;obtain⟨hly,Fn,hso,hFn,hdn⟩:=yGf h eq hsrc;obtain⟨A,c,news,hA,n0,n0',n1,n2,n3,n4,n5⟩:=hso.news;rw[hA]at run;generalize s.ev xp=vp at hK ep;generalize a.eval p=v at ep run;split at hK
  .rename_i kn;obtain⟨hb,hK⟩:=hK;cases ep;unfold newP at hK;split at hK
   case h_2=>grind
   rename_i d hdst;obtain⟨hd0,hK⟩:=hK
   have hd1:d∈[idy]\/s.yRU d=.none:=by
    by_cases hdy:d=idy
    .grind
    .refine .inr ?_;have:=yaa hd0;rw[show(s.drop idy).ob d=(s.yRU d).kill idy by simp[St.drop,St.renew,St.ob,upd,hdy]]at this
     grind [Obj.ypk]
   obtain⟨r,w',X,v1,v2,v3,v4⟩:=ygp (w:=w) (ty:=o.type) ht hi hz hsz hby (v:=.slice none 0 0) (hb:=none) (n:=0) (olds:=[]) (.inl ⟨rfl,⟨none,rfl⟩,rfl,rfl⟩) n0 n0' n1 n2 n3 (by grind) (c:=c);obtain⟨L',hre,hrv⟩:=h.append false (t:=d) (ids:=[idy]) (rows:=[]) (olds:=[]) (Fo:=λ_ _=>noF) (Fn:=Fn) hd1 (by simp) (by simp) n4 (λi r j c hr=>by grind) n5 (λq hq=>by grind) (λ_ _ _ h=>h.elim) (λi j x hx=>⟨idy,by simp,hly,hFn i j x hx⟩) (λ_ _ _ _ _ h=>h.elim) hdn (λ_ _ _ _ _ h=>h.elim) v2 v3 (by omega);refine⟨_,_,run _ _ v1,_,L',hK,?_⟩
   have hput:=hre.put (d:=some d) (v:=r) (x:=.own d i.size new.length) (by grind) (by
    have:=hrv (Good g (upd d (mkO false i.size ([]++new)) (s.drops [idy]).yRU) L' w') (upd d (mkO false i.size ([]++new)) (s.drops [idy]).yRU) (by simp[upd]);simp only[zcD,zbf,zbp]at this|-;exact this)
   rw[hdst];exact hput
  .rename_i id k' n;obtain⟨hne,hK⟩:=hK
   have fin:∀(rows:List (List C)),(s.ob id=.row i.size rows\/(false=false/\∃ver,s.ob id=.tr i.size ver rows))->s.yRU id≠.none->k'=i.size->n=rows.length->(rows.length+new.length)*i.bytes<=140737488355328->
    K (((s.drop idy).renew id (.tr i.size 0 (rows++new))).put o.dst (.own id i.size (rows.length+new.length)))->iE P g o a w K:=by
    clear hK;intro rows hO hlive hk' hn hb hK;subst hk';subst hn;obtain⟨hb0,olds,Fo,u1,u2,u3,u4,u5,u6,u7⟩:=yo1 h ep false hO rfl;obtain⟨r,w',X,v1,v2,v3,v4⟩:=ygp (w:=w) (ty:=o.type) ht hi hz hsz hby u1 n0 n0' n1 n2 n3 hb (c:=c);obtain⟨L',hre,hrv⟩:=h.append false (t:=id) (ids:=[idy,id]) (Fo:=Fo) (Fn:=Fn) (.inl (by simp)) u2 u3 n4 u4 n5 (λq hq=>⟨id,by simp,hlive,u5 q hq⟩) (λi j x hx=>⟨id,by simp,hlive,u6 i j x hx⟩) (λi j x hx=>⟨idy,by simp,hly,hFn i j x hx⟩) u7 hdn (λi j i' j' x hx hx'=>hne (h.inj id idy x hlive hly (.inr (u6 i j x hx)) (.inr (hFn i' j' x hx')))) v2 v3 v4;rw[ywf s id idy hne]at hre;refine⟨_,_,run _ _ v1,_,L',hK,hre.put hd (hrv _ _ ?_)⟩;simp[St.renew,upd,mkO]
   split at hK
   .rename_i k2 rows hO;obtain⟨rfl,hn,hb,hK⟩:=hK
    have hk2:k2=i.size:=by
     obtain⟨m,hdim,_⟩:=ep;have:(s.ob id).nO=some (i.size,m):=hdim
     grind [Obj.nO]
    subst hk2;exact fin rows (.inl hO) (by rw[show s.yRU id=_ from hO];simp) rfl hn hb hK
   .rename_i k2 ver rows hO;obtain⟨rfl,hn,hb,hK⟩:=hK
    have hk2:k2=i.size:=by
     obtain⟨m,hdim,_⟩:=ep;have:(s.ob id).nO=some (i.size,m):=hdim
     grind [Obj.nO]
    subst hk2;exact fin rows (.inr ⟨rfl,ver,hO⟩) (by rw[show s.yRU id=_ from hO];simp) rfl hn hb hK
   grind
  grind
theorem yAz(w:World)(t ty e:TypeId)(i:TypeInfo)(ht:P.underlying t=some (.slice e))(hi:P.info? e=some i){B A:Option Addr}{n bc m c:Nat}{news:List Value}(hl:news.length=min m n*i.size)(h0:A=none->min m n=0)(hnews:∀ad,A=some ad->∀j u,news[j]?=some u->w.cell? (ad.add j)=some u){w':World}
 (hst:∀b,B=some b->(storeCells b news).run P w=.ok () w') (hB:B=none->w'=w):
 (Builtin.copy_ #[t,t] ty #[.slice B n bc,.slice A m c]).run P w=.ok (goInt ((min m n:Nat):Int)) w':=by
 have hmm:Nat.min m n=min m n:=rfl
 have hf:(Builtin.firstCells i.size (min m n) (.slice A m c)).run P w=.ok news.toArray w:=by
  cases A with
  |none=>
   simp_all [Builtin.firstCells]
  |some ad=>grind [run_firstCells_some]
 cases B with
 |none=>
  simp_all [run_underlying,Builtin.copy_,sizeOf,typeInfo,Builtin.lenOf]
 |some b=>
  simp_all [run_underlying,Builtin.copy_,sizeOf,typeInfo,Builtin.lenOf]
end
section
variable {P:Program} {g:ySm} {o:Oper} {s:St} {a:Act} {w:World} {blk:Lay} {K:St->Prop}
theorem yHm{t u ty e:TypeId}{i:TypeInfo}{z:Value}{ik:IntKind}(ht:P.underlying t=some (.slice e))(hu:P.underlying u=some (.int ik))(hi:P.info? e=some i)(hz:i.zero=some z)
 {m:Int} (h0:0<m) (h63:m<=9223372036854775807) (h48:m.toNat*i.bytes<=140737488355328) (hs:0<i.size):
 (Builtin.append_ #[t,u] ty #[.slice none 0 0,.int .i64 m]).run P w=
  .ok (.slice (some ⟨w.heap.size,0,none⟩) m.toNat (grownCap w m.toNat 0 e)) (w.drew.alloc (.cells (Builtin.zeroCells z.cells m.toNat++Builtin.zeroCells z.cells (grownCap w m.toNat 0 e-m.toNat)) e)):=by
 obtain⟨n,rfl⟩:=zcU (zem h0);simp only[Int.ofNat_eq_coe,zeh]at *;have hn:n≠0:=by omega
 have h63':¬(9223372036854775807<(n:Int)):=by omega
 have hw:IntKind.i64.wrap (n:Int)=n:=by grind [IntKind.wrap,IntKind.bits]
 have hb:¬(281474976710656<(n:Int)*(i.bytes:Int)):=by
  omega
 have hq:n*i.size≠0:=by have:=Nat.mul_pos (by omega:0<n) hs;omega
 have h48':¬(281474976710656<Builtin.nextslicecap n 0*i.bytes):=by grind [nextslicecap_zero]
 simp[Builtin.append_,run_underlying ht,run_underlying hu,sizeOf,typeInfo,zeroValue,hi,hz,Builtin.lenOf,hn,h63',h48',Question.forced,run_firstCells_none,newRow,grownCap,asInt,asIntOf,hw,hb,hq];omega
theorem yIA(h:Repr g s a w blk)(hd:∀i,o.dst=some i->i<g.N){t u e:TypeId}{i:TypeInfo}{z:Value}{p q:Operand}{xp:X}{op:IOp}(ho:o.op=.call {callee:=.builtin .append,args:=#[p,q],argTypes:=#[t,u]})
 (ht:P.underlying t=some (.slice e)) (hi:P.info? e=some i) (hz:i.zero=some z) (hp:cxt P t p=some xp) (hc:yHf P u e i z xp q=some op) (hK:kF P o.dst op s K):iE P g o a w K:=by
 unfold yHf at hc;split at hc
 case h_2=>grind
 rename_i ik hu;split at hc
 case h_2=>grind
 rename_i xn hn;split at hc
 case isFalse=>grind
 rename_i hif;obtain⟨hsz,hs,hby⟩:=hif;simp only[zam]at hc;obtain⟨cs,hcs,rfl⟩:=hc;simp only[kF]at hK;have ep:=h.evt hp;have eq:=h.ev hn
 have run:∀r w',(Builtin.append_ #[t,u] o.type #[a.eval p,a.eval q]).run P w=.ok r w'->(execOp a.eval o).run P w=.ok (.value r) w':=by
  simp_all [execOp,resolve,invoke,builtin]
 revert hK ep eq run;generalize s.ev xp=vp;generalize s.ev xn=vn;generalize a.eval p=v;generalize a.eval q=v2;intro hK ep eq run;unfold ywS at hK;split at hK
 case h_2=>grind
 rename_i kn m;obtain⟨h0,h1,hK⟩:=hK;cases ep;obtain⟨e2,i2⟩:=eq.int;subst e2;obtain⟨z1,z2⟩:=yeE (ypo hcs);have z3:cs.length=i.size:=by grind
 rcases Int.lt_or_eq_of_le h0 with hm|hm
 .have hr:=yHm (P:=P) (w:=w) (ty:=o.type) ht hu hi hz hm i2.2 h1 hs
  have hmx:m.toNat<=maxLen:=by
   have:=zba (zcQ m.toNat hby) h1
   grind [maxLen]
  have hcap:=grownCap_ge w m.toNat 0 e;have hcapm:=grownCap_le_maxLen w m.toNat 0 e hmx;have hdr:w.drew.heap.size=w.heap.size:=rfl;refine yeF (w:=w.drew) h.drew hd (w1:=w) (v:=.slice (some ⟨w.heap.size,0,none⟩) m.toNat (grownCap w m.toNat 0 e)) (arr:=Builtin.zeroCells z.cells m.toNat++Builtin.zeroCells z.cells (grownCap w m.toNat 0 e-m.toNat)) (e:=e) (run _ _ hr) ?_ ?_ hK
  .intro w' G' O' blk' KK hh;refine .inr ⟨_,_,_,rfl,hh,?_,λr hr=>by grind,λi2 r j c hr hc=>?_⟩
   .grind [size_zeroCells]
   .have hi2:i2<m.toNat:=by grind
    rw[zbO,if_pos hi2]at hr;cases hr;obtain⟨u,hu,hru⟩:=z2 j c hc;have hj:j<i.size:=by grind
    refine⟨u,?_,ypx hru⟩
    have hlt:i2*i.size+j<(Builtin.zeroCells z.cells m.toNat).size:=by
     rw[size_zeroCells,hsz];have:=zaq i.size (show i2+1<=m.toNat by omega)
     grind
    grind [Nat.mul_comm,Nat.mul_add_mod,Nat.mod_eq_of_lt,Builtin.zeroCells]
  .intro d G' O' blk' hO hb hh;exact⟨_,by rw[hO];rfl,by simp,.inr ⟨_,_,_,_,hb,rfl,hcap,hcapm,hh,by simp only[zdb,size_zeroCells,hsz,<-zbB];grind⟩⟩
 .subst hm
  have hr:(Builtin.append_ #[t,u] o.type #[.slice none 0 0,.int .i64 0]).run P w=.ok (.slice none 0 0) w:=by
   have hw:IntKind.i64.wrap (0:Int)=0:=by rfl
   simp[Builtin.append_,run_underlying ht,run_underlying hu,sizeOf,typeInfo,zeroValue,hi,hz,asInt,asIntOf,hw]
  unfold newP at hK;split at hK
  .rename_i d hdst;obtain⟨hd0,hK⟩:=hK;have hv:=h.virt (d:=d) (k:=i.size) true (yaa hd0);refine⟨_,_,run _ _ hr,_,blk.upd d none noF,hK,?_⟩;have hput:=hv.put (d:=some d) (v:=.slice none 0 0) (x:=.own d i.size 0) (by grind) ⟨0,by simp[upd,mkO,Obj.nO],Nat.le_refl _,.inl ⟨by grind [Lay.eH],rfl,none,rfl⟩⟩;rw[hdst];exact hput
  grind
end
end Go.Proofs.YtdadkiofenhnbaaGreat
namespace Go.Proofs.YtdadkiofenhnbaaGreat
open Go.RowKit
section
variable {P:Program} {g:ySm} {o:Oper} {s:St} {a:Act} {w:World} {blk:Lay} {K:St->Prop}
def fold_push:∀(l:List UInt8) (acc:ByteArray),(l.map λb=>(b.toNat:Int)).foldl (λr n=>r.push (UInt8.ofNat n.toNat)) acc=⟨acc.data++l.toArray⟩
 |[],acc=>by simp
 |b::l,acc=>by
  simp only[zaC,zbz];rw[fold_push l];simp
theorem yIo(h:Repr g s a w blk){v:Value}{y:AV}{k:Nat}{new:List (List C)}(hv:RVs g s w blk v y)(hs:dI s k y=some new):new.length<=maxLen:=by
 have rd:∀rows,Rd w (Good g s.yRU blk w) v (.sl k rows)->rows.length<=maxLen:=by
  intro rows hr;cases hr;omega
 unfold dI at hs;split at hs
 .split at hs
  .rename_i e;subst e;cases hs;exact rd _ hv.c
  .cases hs
 .split at hs
  .rename_i e;subst e;cases hs;obtain⟨_,_,_,hr⟩:=hv;exact rd _ hr
  .cases hs
 .split at hs
  .split at hs
   .cases hs;obtain⟨m,_,hn,hval⟩:=hv;rcases hval with⟨_,h0,_⟩|⟨_,_,_,_,_,_,h1,h2,_⟩
    .rw[zaA];unfold maxLen;omega
    .rw[zaA];omega
   .cases hs
  .cases hs
 .split at hs
  .split at hs
   .cases hs;obtain⟨m,A,c,_,_,_,h1,h2,_⟩:=hv;rw[zaA];omega
   .cases hs
  .cases hs
 .cases hs;simp
 .cases hs
theorem wrap_u64{n:Int}(h0:0<=n)(h1:n<=9223372036854775807):IntKind.u64.wrap n=n:=by
 grind [IntKind.wrap,IntKind.bits]
theorem yuV(h:Repr g s a w blk)(hd:∀i,o.dst=some i->i<g.N){n:Nat}{t u:TypeId}{p:Operand}{xp:X}(ho:o.op=.convert t u p)
 (hn:(n=0/\(isByte P t||isInt P t)=true/\isInt P u=true)\/(n=1/\(isByte P t||isInt P t)=true/\isByte P u=true)\/(n=2/\∃e,P.underlying t=some (.slice e)/\P.underlying u=some .string/\isByte P e=true)
  \/(n=0/\yqm P t=true/\isInt P u=true)\/(n=3/\isInt P t=true/\yqm P u=true))
 (hp:cx p=some xp) (hK:yco n s (s.ev xp) λv=>K (s.put o.dst v)):iE P g o a w K:=by
 have ep:=h.ev hp
 have hint:∀{t:TypeId},isInt P t=true->P.underlying t=some (.int .i64):=by
  grind [isInt]
 have hbyte:∀{t:TypeId},isByte P t=true->P.underlying t=some (.int .u8):=by
  grind [isByte]
 have hsrc:(isByte P t||isInt P t)=true->∃k,P.underlying t=some (.int k):=by
  grind
 have run:∀(k k':IntKind) (m:Int),(∃k0,P.underlying t=some (.int k0))->P.underlying u=some (.int k')->a.eval p=.int k m->(execOp a.eval o).run P w=.ok (.value (.int k' (k'.wrap m))) w:=by
  simp_all [run_underlying,execOp,convert,Conv.intToInt]
 have hwide:∀{t:TypeId},yqm P t=true->P.underlying t=some (.int .u64):=by
  grind [yqm]
 have zero:∀(k0:∃k,P.underlying t=some (.int k)) (h1:isInt P u=true),yco 0 s (s.ev xp) (λv=>K (s.put o.dst v))->iE P g o a w K:=by
  intro k0 h1 hK;unfold yco at hK;simp only at hK;split at hK
  .rename_i m hm;rw[hm]at ep;obtain⟨e1,hlt⟩:=ep.byte;refine iE.mY h hd hK (run _ _ _ k0 (hint h1) e1) ?_;rw[ycG (by grind [inI])];exact .mkI (by grind [inI])
  .rename_i m hm;rw[hm]at ep;obtain⟨e1,hin⟩:=ep.int;refine iE.mY h hd hK (run _ _ _ k0 (hint h1) e1) ?_
   grind [ycG]
  .rename_i m hm;rw[hm]at ep;obtain⟨e1,hlt⟩:=ep.wide;refine iE.mY h hd hK.2 (run _ _ _ k0 (hint h1) e1) ?_;have:=hK.1;rw[ycG (by grind [inI])];exact .mkI (by grind [inI])
  grind
 rcases hn with⟨rfl,h0,h1⟩|⟨rfl,h0,h1⟩|⟨rfl,e,h0,h1,h2⟩|⟨rfl,h0,h1⟩|⟨rfl,h0,h1⟩
 .grind
 .unfold yco at hK;simp only at hK;split at hK
  .rename_i m hm;rw[hm]at ep;obtain⟨e1,hlt⟩:=ep.byte;refine iE.mY h hd hK (run _ _ _ (hsrc h0) (hbyte h1) e1) ?_;rw[wrap_u8,show(m:Int)%256=m by omega]
   grind
  .rename_i m hm;rw[hm]at ep;obtain⟨e1,hin⟩:=ep.int;refine iE.mY h hd hK (run _ _ _ (hsrc h0) (hbyte h1) e1) ?_;rw[wrap_u8,show m%256=((m%256).toNat:Int) by omega];exact .mk (.u (by omega))
  grind
 .unfold yco at hK;simp only at hK;split at hK
  .rename_i rows hrows;obtain⟨l,rfl,hK⟩:=hK;obtain⟨A,c,news,hA,n0,n0',n1,n2,n3,n4,n5⟩:=(src_ok h ep hrows).news
   have hnews:news=l.map λb=>Value.int .u8 b.toNat:=by
    apply zbU;intro q;rcases zas q l.length with hq|hq
    .obtain⟨z,hz,hr⟩:=n5 q [.u l[q].toNat] 0 (.u l[q].toNat) (by grind [yBD]) rfl;simp only[Nat.mul_one,zcA]at hz;cases hr
     grind
    grind
   have hmax:l.length<=maxLen:=by grind [yIo]
   have hcv:(convert t u (.slice A (l.map yBD).length c)).run P w=.ok (.string ⟨l.toArray⟩) w:=by
    have hcs:(convert t u (.slice A (l.map yBD).length c)).run P w=(Conv.bytesToString (.slice A (l.map yBD).length c)).run P w:=by
     simp[convert,run_underlying h0,run_underlying h1,run_underlying (hbyte h2)]
    rw[hcs,zal];cases A with
    |none=>
     have:l=[]:=by grind
     subst this;rfl
    |some ad=>
     have hld:=run_loadCells_list (P:=P) w ad news (n2 ad rfl);rw[hnews,zal,show(l.map λb=>Value.int .u8 b.toNat)=(l.map λb=>(b.toNat:Int)).map (Value.int .u8) by simp]at hld;rw[run_bytesToString w ad l.length c _ hld,fold_push];simp
   have hrun:(execOp a.eval o).run P w=.ok (.value (.string ⟨l.toArray⟩)) w:=by
    grind [Sem.run_bind,Result.andThen_ok,Sem.run_pure,execOp]
   exact iE.mY h hd hK hrun (.mk (.s (by grind [ByteArray.size])))
  grind
 .grind
 .unfold yco at hK;simp only at hK;split at hK
  .rename_i m hm;rw[hm]at ep;obtain⟨e1,hin⟩:=ep.int;obtain⟨h3,hK⟩:=hK;unfold inI at hin;refine iE.mY h hd hK (run _ _ _ ⟨_,hint h0⟩ (hwide h1) e1) ?_;rw[wrap_u64 h3 hin.2,show m=(m.toNat:Int) by omega];exact .mk (.q (by omega))
  grind
theorem cp_ok (h:Repr g s a w blk) (hd:∀i,o.dst=some i->i<g.N) {t e:TypeId} {k:Nat} {p q:Operand} {xp xq:X} (ho:o.op=.call {callee:=.builtin .copy,args:=#[p,q],argTypes:=#[t,t]})
 (ht:P.underlying t=some (.slice e)) (hk:ycM P e=some k)
 (hp:cx p=some xp) (hq:cx q=some xq) (hK:cpP k s o.dst (s.ev xp) (s.ev xq) K):iE P g o a w K:=by
 obtain⟨i,hi,rfl⟩:=yaT hk;have ep:=h.ev hp;have eq:=h.ev hq
 have run:∀r w',(Builtin.copy_ #[t,t] o.type #[a.eval p,a.eval q]).run P w=.ok r w'->(execOp a.eval o).run P w=.ok (.value r) w':=by
  simp_all [execOp,resolve,invoke,builtin]
 unfold cpP at hK;split at hK
 .rename_i new hnew;obtain⟨A,c,news,hA,n0,n0',n1,n2,n3,n4,n5⟩:=(src_ok h eq hnew).news;split at hK
  .rename_i id k' n hx;split at hK
   .rename_i k2 rows hO;obtain⟨rfl,hle,hK⟩:=hK;rw[hx]at ep;obtain⟨m,hdim,hn,hval⟩:=ep
    have hk2:k2=i.size/\rows.length=m:=by
     have:(s.ob id).nO=some (i.size,m):=hdim
     grind [Obj.nO]
    obtain⟨rfl,rfl⟩:=hk2;have hlive:s.ob id≠.none:=by grind
    have hmin:min new.length n*i.size<=news.length:=by rw[n1];exact zaq _ (by omega)
    have hgi:∀(x:Nat),goInt x=.int .i64 x:=λ_=>rfl;have hcpl:(news.take (min new.length n*i.size)).length=min new.length n*i.size:=by grind
    rcases hval with⟨hb,rfl,A0,hv⟩|⟨b,cap,arr,e',hb,hv,h1,h2,h3,h4⟩
    .have hr:=yAz (P:=P) w t o.type e i ht hi (B:=A0) (A:=A) (n:=0) (bc:=0) (m:=new.length) (c:=c) (news:=[]) (by simp) (λe=>by simp) (λ_ _ j u hu=>by grind) (w':=w) (λb _=>by rfl) (λ_=>rfl);rw[<-hv,<-hA]at hr;have e1:new.take 0++rows.drop (min new.length 0)=rows:=by simp
     rw[e1]at hK;refine⟨_,_,run _ _ hr,_,blk,hK,?_⟩
     have:s.iG id (.row i.size rows)=s:=by
      unfold St.iG
      congr 1
      funext x
      unfold upd;split
      .rename_i hx';rw[hx'];exact hO.symm
      .rfl
     rw[this];refine h.put hd ?_;rw[hgi];exact .mkI (by grind [inI])
    .obtain⟨arr',e2,r1,r2,r3,r4⟩:=h.row hO hb;rw[h3]at r1;cases r1
     have hfit:0+(news.take (min new.length n*i.size)).length<=arr.size:=by
      rw[hcpl,zbp];exact zba (zaq _ (by omega)) h4
     have hst:=run_storeCells_at P b 0 e' (news.take (min new.length n*i.size)) 0 arr w h3 (by omega) (λu hu=>n3 u (zaw hu));simp only[zcA,zbp]at hst
     have hr:=yAz (P:=P) w t o.type e i ht hi (B:=some ⟨b,0,none⟩) (A:=A) (n:=n) (bc:=cap) (m:=new.length) (c:=c) (news:=news.take (min new.length n*i.size)) hcpl (λe=>by grind) (λad had j u hu=>by
      grind) (λb0 hb0=>by cases hb0;omega) (λe=>by cases e)
     rw[<-hv,<-hA]at hr;refine⟨_,_,run _ _ hr,_,blk,hK,?_⟩;have hsz2:(arr.toList.take 0++news.take (min new.length n*i.size)++arr.toList.drop (0+(news.take (min new.length n*i.size)).length)).toArray.size=arr.size:=mX arr _ 0 _ rfl hfit
     have hre:=h.setRow (o':=.row i.size (new.take n++rows.drop (min new.length n))) hlive hb h3 hsz2 (by rw[hO];exact⟨_,rfl,by grind⟩) (λk v rows e=>by simp) (λw' G' O' KK hh _=>by
      refine .inr ⟨b,_,e',rfl,hh,by grind,λr hr=>?_,λi2 r j c2 hr hc=>?_⟩
      .grind
      .rw[yaH _ _ _ _ rfl hfit,if_neg (by omega),hcpl];simp only[zbp,zek]
       by_cases hi2:i2<min new.length n
       .rw[zaX (by grind),zbv,if_pos (by omega)]at hr;obtain⟨u,hu,hru⟩:=n5 i2 r j c2 hr hc;have hj:j<i.size:=by grind
        have h5:(i2+1)*i.size<=min new.length n*i.size:=zaq _ hi2;rw[zbB,zco]at h5;exact⟨u,by grind,Rd.mono hru KK.good KK.cell⟩
       .rw[zaz (by grind),zbD,zaA]at hr;rw[show min new.length n+(i2-min n new.length)=i2 by omega]at hr;obtain⟨u,hu,hru⟩:=r4 i2 r j c2 hr hc;have h5:min new.length n*i.size<=i2*i.size:=zaq _ (by omega);exact⟨u,by grind,hru.mono KK.good KK.cell⟩)
     simp only[zbp]at hre;refine hre.put hd ?_;rw[hgi];exact .mkI (by grind [maxLen,inI])
   grind
  grind
 grind
theorem yzP (h:Repr g s a w blk) (hd:∀i,o.dst=some i->i<g.N) {op:IOp} {c:Call} (ho:o.op=.call c) (hc:ytr P c=some op) (hK:kF P o.dst op s K):iE P g o a w K:=by
 obtain⟨callee,args,ts⟩:=c;obtain⟨args⟩:=args;obtain⟨ts⟩:=ts;unfold ytr at hc;simp only at hc;split at hc
 .split at hc
  .rename_i x t;split at hc
   .rename_i e xx ht hx;cases hc;exact yLH h hd ho ht hx hK
   .rename_i xx ht hx;cases hc;exact yIG h hd ho ht hx hK
   grind
  grind
 .split at hc
  .rename_i x y t u;split at hc
   .rename_i e xx yy ht hx hy;split at hc
    .rename_i i hi;split at hc
     .rename_i z hz;split at hc
      .rename_i hif;obtain⟨rfl,h1,h2,h3⟩:=hif;cases hc;exact yLe h hd ho ht hi hz h2 h3 hx hy hK
      grind [yIA]
     grind
    grind
   grind
  grind
 .simp only[zam]at hc;obtain⟨y,hy,rfl⟩:=hc;exact mn_ok h hd ho hy hK
 .simp only[zam]at hc;obtain⟨y,hy,rfl⟩:=hc;exact mx_ok h hd ho hy hK
 .split at hc
  .rename_i x t;split at hc
   .rename_i e xx ht hx;cases hc;exact yJV h hd ho ht hx hK
   grind
  grind
 .split at hc
  .rename_i x y t u;split at hc
   .rename_i e xx yy ht hx hy;split at hc
    .rename_i e2;subst e2;split at hc
     .rename_i k hk;cases hc;exact cp_ok h hd ho ht hk hx hy hK
     grind
    grind
   grind
  grind
 .rename_i f;split at hc
  .rename_i fn ys hf hy;split at hc
   .rename_i hif;cases hc;simp only[zad]at hif;refine yH5 h hd ho hf hif.1 hif.2 ?_ hK
    grind
   .split at hc
    .rename_i n x y he hl;cases hc;cases args with
     |nil=>grind
     | cons p l=>
      cases l with
      |nil=>grind
      | cons q l=>
       cases l with
       |nil=>
        simp only[zaC,zcj,List.cons.injEq,and_true]at hl;exact yJ0 h hd ho hf he hl.1 hl.2 hK
       |cons _ _=>grind
    grind
  grind
 .rename_i f _;split at hc
  .rename_i x xs hx hxs;cases hc;exact yGK h hd ho hx hxs hK
  grind
 grind
theorem yGt(h:Repr g s a w blk)(hd:∀i,o.dst=some i->i<g.N){op:IOp}(hc:ysc P o=some op)(hK:kF P o.dst op s K):iE P g o a w K:=by
 unfold ysc at hc;split at hc
 .rename_i x ho;simp only[zam]at hc;obtain⟨y,hy,rfl⟩:=hc;exact yJd h hd (.inl ho) hy hK
 .rename_i x ho;simp only[zam]at hc;obtain⟨y,hy,rfl⟩:=hc;exact yJd h hd (.inr ho) hy hK
 .rename_i c x y ho;split at hc
  .rename_i h1 h2 h3;cases hc;exact yIi h hd ho h1 h2 h3 hK
  .cases hc
 .rename_i bop t x y t' ho;split at hc
  .rename_i ik ht;split at hc
   .rename_i h1 h2;split at hc
    .cases hc;exact yxI h hd ho h1 h2 hK
    .cases hc;exact yxI h hd ho h1 h2 hK
    .cases hc;exact yxI h hd ho h1 h2 hK
    .cases hc;exact yxI h hd ho h1 h2 hK
    .split at hc
     .cases hc;exact yIk h hd ho h1 h2 hK
     .split at hc
      .cases hc;exact yII h hd ho h1 h2 hK
      .cases hc;exact yK0 h hd ho h1 h2 hK
   .rename_i h1 h2;simp only[zam]at hc;obtain⟨n,hn,rfl⟩:=hc;exact yIU h hd ho h1 hn hK
   .cases hc
  .rename_i ht;split at hc
   .rename_i h1 h2;cases hc;exact seq_ok (neg:=false) h hd ho ht h1 h2 hK
   .rename_i h1 h2;cases hc;exact seq_ok (neg:=true) h hd ho ht h1 h2 hK
   .rename_i h1 h2;cases hc;exact yIX h hd ho ht h1 h2 hK
   .cases hc
  .rename_i ht;split at hc
   .rename_i h1 h2;cases hc;exact yFA (neg:=false) h hd ho ht h1 h2 hK
   .rename_i h1 h2;cases hc;exact yFA (neg:=true) h hd ho ht h1 h2 hK
   .cases hc
  .rename_i ht;split at hc
   .rename_i hst;split at hc
    .rename_i h1 h2;cases hc;exact yGV (neg:=false) h hd ho ht hst h1 h2 hK
    .rename_i h1 h2;cases hc;exact yGV (neg:=true) h hd ho ht hst h1 h2 hK
    .cases hc
   .cases hc
  .rename_i ht;split at hc
   .rename_i h1;cases hc;exact yKM h hd ho ht h1 hK
   .cases hc
  .cases hc
 .rename_i t ho;cases hc;exact yMo h hd ho hK
 .rename_i t m k v ho;split at hc
  .rename_i ht;split at hc
   .rename_i h1 h2 h3;cases hc;exact yKL h hd ho ht h1 h2 h3 hK
   .cases hc
  .cases hc
 .rename_i t m k ho;split at hc
  .rename_i ht;split at hc
   .rename_i h1 h2;cases hc;exact yKP h hd ho ht h1 h2 hK
   .cases hc
  .cases hc
 .rename_i t x ho;simp only[zam]at hc;obtain⟨y,hy,rfl⟩:=hc;exact yKF h hd ho hy hK
 .rename_i t x ho;simp only[zam]at hc;obtain⟨y,hy,rfl⟩:=hc;exact yMk h hd ho hy hK
 .rename_i t x y ho;split at hc
  .rename_i ht h1 h2;simp only[zam]at hc;obtain⟨k,hk,rfl⟩:=hc;exact yMd h hd ho ht hk h1 h2 hK
  .rename_i ht h1 h2;simp only[zam]at hc;obtain⟨k,hk,rfl⟩:=hc;exact yKQ h hd ho ht hk h1 h2 hK
  .cases hc
 .rename_i t x f ho;split at hc
  .rename_i fs xx ht hx;split at hc
   .rename_i fl hf;split at hc
    .rename_i n hn;cases hc;exact yK5 h hd ho ht hf hn hx hK
    .cases hc
   .cases hc
  .cases hc
 .rename_i t x ho;split at hc
  .rename_i h1 h2 h3;cases hc;exact yL0 h hd ho h1 h3 h2 hK
  .rename_i h1 h2;cases hc;exact yK9 h hd ho h1 h2 hK
  .cases hc
 .rename_i t x v ho;split at hc
  .rename_i h1 h2 h3 h4;cases hc;exact yKh h hd ho h4 h2 h3 hK
  .rename_i h1 h2 h3 h4;cases hc;exact yKp h hd ho h4 h2 h3 hK
  .cases hc
 .rename_i t x ho;split at hc
  .rename_i h1 h2;cases hc;exact yLo h hd ho h1 hK
  .cases hc
 .rename_i t ho;split at hc
  .rename_i i n e hi ht;split at hc
   .rename_i z j hz hj;split at hc
    .rename_i y hy;split at hc
     .rename_i cs hcs;split at hc
      .rename_i hif;cases hc;simp only[zad,beq_iff_eq]at hif;exact yDR h hd ho hi hz hif.1 hif.2 hK
      .cases hc
     .cases hc
    .cases hc
   .cases hc
  .rename_i i d _ hi ht;split at hc
   .rename_i z hz;simp only[zam]at hc;obtain⟨zs,hzs,rfl⟩:=hc;exact yGH h hd ho hi hz hzs hK
   .cases hc
  .cases hc
 .rename_i t l c ho;split at hc
  .rename_i e xl xc ht hl hc';split at hc
   .rename_i i hi;split at hc
    .rename_i z hz;split at hc
     .rename_i hif;simp only[zam]at hc;obtain⟨cs,hcs,rfl⟩:=hc;exact yK4 h hd ho ht hi hz (ypo hcs) hif.1 hl hc' hK
     .cases hc
    .cases hc
   .cases hc
  .cases hc
 .rename_i t n parts ho;split at hc
  .rename_i e xs ht hx;split at hc
   .rename_i i hi;split at hc
    .rename_i z hz;split at hc
     .rename_i hif;cases hc;exact yLh h hd ho ht hi hz hx hif.1 hif.2.1 hif.2.2.1 hK
     .cases hc
    .cases hc
   .cases hc
  .cases hc
 .rename_i t parts ho;split at hc
  .rename_i it fields hi ht;split at hc
   .rename_i z places hz hp;split at hc
    .rename_i ps zs hps hzs;cases hc;exact yLq h hd ho hi ht hz hp hps hzs hK
    .cases hc
   .cases hc
  .cases hc
 .rename_i t x lo hi mx ho;split at hc
  .rename_i e xx ht hx;split at hc
   .rename_i k y hk hl hh hm;cases hc;cases lo<;>simp at hl;cases mx<;>simp at hm;cases hi with
    |none=>simp at hh
    |some y'=>
     simp only[zaT,Option.some.injEq]at hh;exact yyY (xl:=none) (xm:=none) (xh:=some y) h hd ho ht hk hx (λ_ e=>by cases e) (λ_ e=>by cases e;exact⟨_,rfl,hh⟩) (λ_ e=>by cases e) (λ_=>rfl) (λe=>by cases e) (λ_=>rfl) hK
   .rename_i k y hk hl hh hm;cases hc;cases hi<;>simp at hh;cases mx<;>simp at hm;cases lo with
    |none=>simp at hl
    |some y'=>
     simp only[zaT,Option.some.injEq]at hl;exact yyY (xl:=some y) (xm:=none) (xh:=none) h hd ho ht hk hx (λ_ e=>by cases e;exact⟨_,rfl,hl⟩) (λ_ e=>by cases e) (λ_ e=>by cases e) (λe=>by cases e) (λ_=>rfl) (λ_=>rfl) hK
   .rename_i k y y2 hk hl hh hm;cases hc;cases mx<;>simp at hm;cases lo with
    |none=>simp at hl
    | some y'=>
     simp only[zaT,Option.some.injEq]at hl;cases hi with
     |none=>simp at hh
     |some y2'=>
      simp only[zaT,Option.some.injEq]at hh;exact yyY (xl:=some y) (xm:=none) (xh:=some y2) h hd ho ht hk hx (λ_ e=>by cases e;exact⟨_,rfl,hl⟩) (λ_ e=>by cases e;exact⟨_,rfl,hh⟩) (λ_ e=>by cases e) (λe=>by cases e) (λe=>by cases e) (λ_=>rfl) hK
   .rename_i k y y2 hk hl hh hm;cases hc;cases lo<;>simp at hl;cases mx with
    |none=>simp at hm
    | some y'=>
     simp only[zaT,Option.some.injEq]at hm;cases hi with
     |none=>simp at hh
     |some y2'=>
      simp only[zaT,Option.some.injEq]at hh;exact yyY (xl:=none) (xm:=some y2) (xh:=some y) h hd ho ht hk hx (λ_ e=>by cases e) (λ_ e=>by cases e;exact⟨_,rfl,hh⟩) (λ_ e=>by cases e;exact⟨_,rfl,hm⟩) (λ_=>rfl) (λe=>by cases e) (λe=>by cases e) hK
   .cases hc
  .rename_i n e xx ht hx;split at hc
   .rename_i k y hk hl hh hm;split at hc
    .rename_i hn;cases hc;cases lo<;>simp at hl;cases mx<;>simp at hm;cases hi with
     |none=>simp at hh
     |some y'=>
      simp only[zaT,Option.some.injEq]at hh;exact yLF h hd ho ht hk hx hh hn hK
    .cases hc
   .cases hc
  .rename_i xx ht hx;split at hc
   .rename_i y hl hh;cases hc;cases lo<;>simp at hl;cases hi with
    |none=>simp at hh
    |some y'=>
     simp only[zaT,Option.some.injEq]at hh;exact yBp (xl:=none) (xh:=some y) h hd ho ht hx (λ_ e=>by cases e) (λ_ e=>by cases e;exact⟨_,rfl,hh⟩) (λ_=>rfl) (λe=>by cases e) hK
   .rename_i y hl hh;cases hc;cases hi<;>simp at hh;cases lo with
    |none=>simp at hl
    |some y'=>
     simp only[zaT,Option.some.injEq]at hl;exact yBp (xl:=some y) (xh:=none) h hd ho ht hx (λ_ e=>by cases e;exact⟨_,rfl,hl⟩) (λ_ e=>by cases e) (λe=>by cases e) (λ_=>rfl) hK
   .rename_i y y2 hl hh;cases hc;cases lo with
    |none=>simp at hl
    | some y'=>
     simp only[zaT,Option.some.injEq]at hl;cases hi with
     |none=>simp at hh
     |some y2'=>
      simp only[zaT,Option.some.injEq]at hh;exact yBp (xl:=some y) (xh:=some y2) h hd ho ht hx (λ_ e=>by cases e;exact⟨_,rfl,hl⟩) (λ_ e=>by cases e;exact⟨_,rfl,hh⟩) (λe=>by cases e) (λe=>by cases e) hK
   .cases hc
  .cases hc
 .rename_i x ho;simp only[zam]at hc;obtain⟨y,hy,rfl⟩:=hc;exact yL5 h hd ho hy hK
 .rename_i t u x ho;split at hc
  .rename_i y hy;split at hc
   .rename_i hif;cases hc;simp only[zad]at hif;exact yuV h hd ho (.inl ⟨rfl,hif.1,hif.2⟩) hy hK
   .split at hc
    .rename_i hif;cases hc;simp only[zad]at hif;exact yuV h hd ho (.inr (.inl ⟨rfl,hif.1,hif.2⟩)) hy hK
    .split at hc
     .rename_i hif;cases hc;simp only[zad]at hif;exact yuV h hd ho (.inr (.inr (.inr (.inl ⟨rfl,hif.1,hif.2⟩)))) hy hK
     split at hc
     .rename_i hif;cases hc;simp only[zad]at hif;exact yuV h hd ho (.inr (.inr (.inr (.inr ⟨rfl,hif.1,hif.2⟩)))) hy hK
     split at hc
     .rename_i e h1 h2;split at hc
      .rename_i hb;cases hc;exact yuV h hd ho (.inr (.inr (.inl ⟨rfl,e,h1,h2,hb⟩))) hy hK
      .cases hc
     .cases hc
  .cases hc
 .rename_i f first captured ho
  split at hc
  .rename_i xs hf hx;cases hc;exact yKT h hd ho hf hx hK.1 hK.2
  .cases hc
 .cases hc;exact hK.elim
 .cases hc;exact hK.elim
 .rename_i c ho;exact yzP h hd ho hc hK
 .rename_i x i ho;split at hc
  .rename_i hi;simp only[zam]at hc;obtain⟨y,hy,rfl⟩:=hc;exact yLD h hd ho hi hy hK
  .cases hc
 .rename_i t x f ho;split at hc
  .rename_i fs xx ht hx;split at hc
   .rename_i fl hf;split at hc
    .rename_i hb;cases hc;exact yYb h hd ho ht hf hb hx hK
    .cases hc
   .cases hc
  .cases hc
 .rename_i t x i ho;split at hc
  .rename_i ht h1 h2;cases hc;exact yK8 h hd ho ht h1 h2 hK
  .cases hc
 .cases hc
theorem step_ok(h:Repr g s a w blk)(hd:∀i,o.dst=some i->i<g.N){op:IOp}(hc:ysm P o=some op)(hK:kF P o.dst op s K):iE P g o a w K:=by
 unfold ysm at hc;cases h0:ysc P o with
 |some q=>
  grind [yGt]
 |none=>
  rw[h0]at hc;cases hc;exact hK.elim
theorem yxd{N:Nat}{Q:Exit->Act->World->Prop}{ops:Array Oper}(hN:g.N=N):∀{l:List Oper} {is:List Ins} {s:St} {a:Act} {w:World} {blk:Lay} {K:St->Prop},yac P N ops l=some is->Repr g s a w blk->wpI P is s K->
 (∀s' blk' a' w',K s'->Repr g s' a' w' blk'->Q .normal a' w')->wpList P ops Q l a w
 |[],is,s,a,w,blk,K,hc,h,hK,hQ=>by
  cases hc;exact hQ _ _ _ _ hK h
 | o ::l,is,s,a,w,blk,K,hc,h,hK,hQ=>by
  simp only[yac]at hc;split at hc
  .rename_i i is' h1 h2;cases hc;have ih:=λ{s:St} {a:Act} {w:World} {blk:Lay} {K:St->Prop}=>yxd (Q:=Q) (ops:=ops) hN (l:=l) (is:=is') (s:=s) (a:=a) (w:=w) (blk:=blk) (K:=K) h2
   have hd:∀i,o.dst=some i->i<g.N:=by
    grind [ybf]
   obtain⟨op,hop,hid,hiop,hg⟩:∃op,ysm P o=some op/\i.d=o.dst/\i.op=op/\((o.guard=none/\i.g=none)\/∃j want t,o.guard=some (j,want)/\(ops[j]?).bind (·.dst)=some t/\t<jV/\i.g=some (t,want)):=by
    unfold ybf at h1
    grind
   have doit:kF P o.dst op s (λs'=>wpI P is' s' K)->o.wp P a w (wpList P ops Q l) Q:=λhs=>
    (step_ok h hd hop hs).wp λs' blk' a' w' k r=>ih r k hQ
   have skip:wpI P is' (s.put o.dst .und) K->wpList P ops Q l (a.put o.dst undef) w:=λhs=>
    ih (h.put hd (v:=undef) (x:=.und) (show undef=undef from rfl)) hs hQ
   rcases hg with⟨e1,e2⟩|⟨j,want,t,e1,e2,htl,e3⟩
   .grind [wpList,Region.wanted,wpI]
   .simp only[wpI,e3,hid,hiop]at hK
    have hy:∀v:Bool,a.tmps.getD t undef=.bool v->yielded ops a.tmps j=some v:=by
     intro v hv;unfold yielded;rw[e2];simp only[zcg]
     have:a.tmps[t]?=some (.bool v):=by
      rw[zan]at hv
      grind [undef]
     grind
    have hen:=h.at_ htl;unfold fZ at hK;split at hK
    .rename_i v hv;rw[hv]at hen;have hb:=hen.bool;unfold wpList
     by_cases e:v=want
     .grind [Region.wanted]
     .rw[if_neg (by grind [Region.wanted])];exact skip (hK.2 (by cases v<;>cases want<;>simp_all))
    .rename_i hv;rw[hv]at hen;have hu:a.tmps.getD t undef=undef:=hen
     have hyn:yielded ops a.tmps j=none:=by
      unfold yielded;rw[e2];simp only[zcg];cases hq:a.tmps[t]? with
      |none=>rfl
      |some u=>
       simp_all [undef]
     grind [wpList,Region.wanted]
    grind
  grind
end
end Go.Proofs.YtdadkiofenhnbaaGreat
namespace Go.Proofs.YtdadkiofenhnbaaGreat
open Go.RowKit
section
variable {g:ySm} {s s':St} {a:Act} {w:World} {blk:Lay}
def Repr.call(h:Repr g s a w blk){w':World}(hb:Below w.heap.size w w'):Repr g s a w' blk:=by
 have:=h.turn [] (λ_=>False) (objs':=s.yRU) (w':=w') (L':=blk) (X:=noF) (.of_below _ hb) (λ_ hq=>hq.elim) (λi _=>⟨by rfl,rfl,rfl⟩) (λ_ _ h=>h.elim) (λ_ _ _ h=>h.elim) (λ_ _ h=>h.elim) (λ_ h=>h.elim) (λ_ _ _ _ h=>h.elim) (λ_ _ _ h=>h.elim);exact this
end
def noO:Nat->Obj:=λ_=>.none
def noB:Nat->Option Nat:=λ_=>none
def qB(P:Program)(f:Nat)(args:List AV)(res:AV):Prop:=
 ∀(w:World) (G:Nat->Prop),(∀b,G b->b<w.heap.size)->∀vs:Array Value,vs.size=args.length->
  (∀(j:Nat) (x:AV),args[j]?=some x->∃u:Value,vs[j]?=some u/\RV w G noO noB u x)->
  Calls P f vs w λe w'=>∃v,e=.returned v/\Below w.heap.size w w'/\RV w' (λb=>G b\/(w.heap.size<=b/\b<w'.heap.size)) noO noB v res
def out1 (s:St) (x y:AV):Prop:=
 match x with
 | .c z=>y=.c z
 | .clip k rows=>y=.c (.sl k rows)\/y=.clip k rows
 | .nil _=>(∃k,y=.c (.sl k []))\/∃k,y=.nil k
 | .own id k n=>match s.ob id with
  | .row _ rows=>y=.c (.sl k (rows.take n))
  | .tr _ _ rows=>match yaq (rows.take n)with
   |some r=>y=.c (.sl k r)
   |none=>False
  |_=>False
 | .cut id k lo n=>match s.ob id with
  | .row _ rows=>y=.c (.sl k ((rows.drop lo).take n))
  |_=>False
 | .sub id ver i j _ _=>match s.ob id with
  | .tr _ ver' rows=>ver'=ver/\match cellAt rows i.toNat j with
   |some c=>match c.shr with
    |some z=>y=.c z
    |none=>False
   |none=>False
  |_=>False
 | .elt cs=>y=.elt cs
 |_=>False
def ycm(s:St):List AV->List AV->Prop
 |[],[]=>True
 |x::l,y::l'=>out1 s x y/\ycm s l l'
 |_,_=>False
def nZ(s:St)(x y:AV):Prop:=
 match x with
 | .agg l=>match y with
  | .agg l'=>ycm s l l'
  |_=>False
 | .fn f l=>match y with
  | .fn f' l'=>f=f'/\ycm s l l'
  |_=>False
 | .box id off=>match s.ob id with
  | .box cells=>match y with
   | .elt cs=>ycm s (cells.drop off) (cs.map .c)
   |_=>False
  |_=>False
 |x=>out1 s x y
def iO(s:St):List AV->List AV->Prop
 |[],[]=>True
 |x::l,y::l'=>nZ s x y/\iO s l l'
 |_,_=>False
def AV.yoa:AV->Bool
 | .c _| .clip _ _| .nil _| .elt _=>true
 |_=>false
def AV.nU:AV->Bool
 | .agg l| .fn _ l=>l.all AV.yoa
 |x=>x.yoa
def AV.yoo:AV->Bool
 | .c (.sl _ _)=>false
 | .c _=>true
 |_=>false
def AV.yse:AV->Bool
 | .agg l=>l.all AV.yoo
 |x=>x.yoo
def AV.scalar:AV->Bool
 | .tup l=>l.all AV.yse
 |x=>x.yse
def AV.wf1:AV->Prop
 | .c z=>z.WF
 | .elt cs=>∀z,z∈cs->z.WF
 |_=>True
def AV.wf:AV->Prop
 | .agg l| .fn _ l=>∀y,y∈l->y.wf1
 |x=>x.wf1
def ycR:List AV->Prop
 |[]=>True
 |x::l=>x.wf/\ycR l
section
variable {g:ySm} {s:St} {a:Act} {w:World} {blk:Lay} {v:Value} {x y:AV}
def All(g:ySm)(w:World)(b:Nat):Prop:=(g.G0 b\/g.F0 b)\/(g.w0.heap.size<=b/\b<w.heap.size)
def yAR(b:Nat)(h:Good g s.yRU blk w b):All g w b:=h.1
def yBU(h:Repr g s a w blk){id b:Nat}(hl:s.yRU id≠.none)(hf:blk.fp id b):All g w b:=by
 obtain⟨h1,h2⟩:=h.new id b hl hf;rcases h1 with h1|h1
 .exact .inl (.inr h1)
 .exact .inr ⟨h1,h2⟩
def yBS(h:Repr g s a w blk){b:Nat}(hb:All g w b):b<w.heap.size:=by
 rcases hb with(e|e)|e
 .have:=h.g0 b e;have:=h.below.size;omega
 .have:=h.f0 b e;have:=h.below.size;omega
 omega
def yz5{G G':Nat->Prop}{O O':Nat->Obj}{bl bl':Nat->Option Nat}(hG:∀b,G b->G' b)(hx:x.yoa=true)(h:RV1 w G O bl v x):RV1 w G' O' bl' v x:=by
 cases x<;>simp[AV.yoa]at hx
 .exact Rd.mono h hG (λ_ _ _ h=>h)
 .exact h
 .obtain⟨a,n,e,hr⟩:=h;exact⟨a,n,e,hr.mono hG (λ_ _ _ h=>h)⟩
 .obtain⟨ad,e,hc⟩:=h;exact⟨ad,e,λj c hj=>let⟨hg,u,hu,hr⟩:=hc j c hj;⟨hG _ hg,u,hu,hr.mono hG (λ_ _ _ h=>h)⟩⟩
theorem yjq{G:Nat->Prop}{A:Option Addr}{k:Nat}:Rd w G (.slice A 0 0) (.sl k []):=.sl (λ_ _=>default) rfl (Nat.le_refl _) (by omega) (by simp) (by simp) (by simp) (by simp)
theorem yi6(h:Repr g s a w blk){G':Nat->Prop}(hG:∀b,Good g s.yRU blk w b->G' b)(hF:∀id,id∈x.tJ->s.yRU id≠.none->∀b,blk.fp id b->G' b)(hx:RV1 w (Good g s.yRU blk w) s.yRU blk v x)(ho:out1 s x y):RV1 w G' noO noB v y:=by
 unfold out1 at ho;split at ho
 .subst ho;exact Rd.mono hx hG (λ_ _ _ h=>h)
 .obtain⟨a',n',e',hr⟩:=hx;rcases ho with rfl|rfl
  .exact Rd.mono hr hG (λ_ _ _ h=>h)
  .exact⟨a',n',e',Rd.mono hr hG (λ_ _ _ h=>h)⟩
 .rcases ho with⟨k,rfl⟩|⟨k,rfl⟩
  .cases hx;exact yjq
  .exact hx
 .rename_i id k n;split at ho
  .rename_i k2 rows hO;subst ho
   have hk:k2=k:=by
    obtain⟨m,hd,_⟩:=hx;have:(s.ob id).nO=some (k,m):=hd
    grind [Obj.nO]
   subst hk;obtain⟨_,hl,hot⟩:=ykc h hx (c:=.ow k2 (rows.take n)) (ids:=[id]) (by simp[pk1,hO]);exact hot.yqb rfl hG (λb hb=>hF id (by simp[AV.tJ]) hl b hb)
  .rename_i k2 ver rows hO;split at ho
   .rename_i r hr;subst ho
    have hk:k2=k:=by
     obtain⟨m,hd,_⟩:=hx;have:(s.ob id).nO=some (k,m):=hd
     grind [Obj.nO]
    subst hk;obtain⟨_,hl,hot⟩:=ykc h hx (c:=.ot k2 (rows.take n)) (ids:=[id]) (by simp[pk1,hO]);exact hot.yqb (by grind [C.shr]) hG (λb hb=>hF id (by simp[AV.tJ]) hl b hb)
   grind
  grind
 .rename_i id k lo n;split at ho
  .rename_i k2 rows hO;subst ho;obtain⟨m,A,c,hd,hle,rfl,h1,h2,h3⟩:=hx
   have hk:k2=k/\rows.length=m:=by
    have:(s.ob id).nO=some (k,m):=hd
    grind [Obj.nO]
   obtain⟨rfl,rfl⟩:=hk;have hlen:((rows.drop lo).take n).length=n:=by grind
   rcases zaB n with h0|h0
   .subst h0;simp only[zdy];exact Rd.sl (λ_ _=>default) rfl h1 h2 (by simp) (by simp) (by simp) (by simp)
   .obtain⟨b,hb,rfl⟩:=h3 h0;obtain⟨arr,e,r1,r2,r3,r4⟩:=h.row hO hb;have hl:s.yRU id≠.none:=by rw[show s.yRU id=_ from hO];simp
    have get:∀(i:Nat) (r:List C),((rows.drop lo).take n)[i]?=some r->rows[lo+i]?=some r:=by
     grind
    refine Rd.sl (λi j=>(arr[(lo+i)*k2+j]?).getD default) hlen h1 h2 (λr hr=>r3 r (zaO (zaw hr))) (λ_=>rfl) (λi r hr j c hc=>?_) (λi r hr j c hc=>?_)
    .obtain⟨u,hu,hru⟩:=r4 _ r j c (get i r hr) hc;refine⟨_,rfl,hF id (by simp[AV.tJ]) hl b (.inl hb),?_⟩
     grind [add_lit,cell_of]
    .obtain⟨u,hu,hru⟩:=r4 _ r j c (get i r hr) hc;rw[hu];exact hru.mono hG (λ_ _ _ h=>h)
  grind
 .rename_i id ver i j k n;split at ho
  .rename_i k0 ver' rows hO;obtain⟨rfl,ho⟩:=ho;split at ho
   .rename_i c hc;split at ho
    .rename_i z hz;subst ho;obtain⟨q,r,c',A,cap,F,e1,e2,e3,e4,e5,e6,e7,e8,e9,e10⟩:=h.sub0 hO (RVs.of1 hx);obtain⟨r',f1,f2⟩:=ycF hc;rw[e3]at f1;cases f1;rw[e4]at f2;cases f2;have hl:s.yRU id≠.none:=by rw[show s.yRU id=_ from hO];simp
     exact e9.yqb hz hG (λb hb=>hF id (by simp[AV.tJ]) hl b (.inr (e10 b hb).1))
    grind
   grind
  grind
 .subst ho;obtain⟨ad,e,hc⟩:=hx;exact⟨ad,e,λj c hj=>let⟨hg,u,hu,hr⟩:=hc j c hj;⟨hG _ hg,u,hu,hr.mono hG (λ_ _ _ h=>h)⟩⟩
 grind
theorem ysf(h:Repr g s a w blk){G':Nat->Prop}(hG:∀b,All g w b->G' b)(hx:RV1 w (Good g s.yRU blk w) s.yRU blk v x)(ho:out1 s x y):RV1 w G' noO noB v y:=
 yi6 h (λb hb=>hG b (yAR b hb)) (λ_ _ hl b hb=>hG b (yBU h hl hb)) hx ho
theorem yaZ:∀{l l':List AV},ycm s l l'->l'.length=l.length/\∀(j:Nat) (y:AV),l'[j]?=some y->∃x,l[j]?=some x/\out1 s x y
 |[],[],_=>⟨rfl,λj y hj=>by grind⟩
 |x::l,y::l',h=>by
  obtain⟨h1,h2⟩:=yaZ h.2;refine⟨by grind,λj z hj=>?_⟩;cases j with
  |zero=>simp at hj;subst hj;exact⟨x,rfl,h.1⟩
  |succ j=>grind
theorem yV:∀{l l':List AV},iO s l l'->l'.length=l.length/\∀(j:Nat) (y:AV),l'[j]?=some y->∃x,l[j]?=some x/\nZ s x y
 |[],[],_=>⟨rfl,λj y hj=>by grind⟩
 |x::l,y::l',h=>by
  obtain⟨h1,h2⟩:=yV h.2;refine⟨by grind,λj z hj=>?_⟩;cases j with
  |zero=>simp at hj;subst hj;exact⟨x,rfl,h.1⟩
  |succ j=>grind
def yvp{G:Nat->Prop}{O:Nat->Obj}{bl:Nat->Option Nat}(h:RV1 w G O bl v x):RV w G O bl v x:=by
 cases x<;>first|exact h|exact h.elim
def yxS{G:Nat->Prop}{O:Nat->Obj}{bl:Nat->Option Nat}(h:RV1 w G O bl v x):RV2 w G O bl v x:=by
 cases x<;>first|exact h|exact h.elim
def yhR{G:Nat->Prop}{O:Nat->Obj}{bl:Nat->Option Nat}(h:RV2 w G O bl v x):RV w G O bl v x:=by
 cases x<;>first|exact h|exact h.elim
theorem yoq(h:Repr g s a w blk){G':Nat->Prop}(hG:∀b,All g w b->G' b)(hx:RVs g s w blk v x)(ho:nZ s x y):RV2 w G' noO noB v y:=by
 unfold nZ at ho;split at ho
 .rename_i l;split at ho
  .rename_i l';obtain⟨arr,e,hs,hl⟩:=hx;obtain⟨h1,h2⟩:=yaZ ho;refine⟨arr,e,by omega,λj z hj=>?_⟩
   grind [ysf]
  grind
 .rename_i f l;split at ho
  .rename_i f' l';obtain⟨rfl,ho⟩:=ho;obtain⟨arr,e,hs,hl⟩:=hx;obtain⟨h1,h2⟩:=yaZ ho;refine⟨arr,e,by omega,λj z hj=>?_⟩
   grind [ysf]
  grind
 .rename_i id off;split at ho
  .rename_i cells hO;split at ho
   .rename_i cs;obtain⟨b,cells',hO',hb,rfl⟩:=hx;obtain⟨arr,e,r1,r2,r3⟩:=h.box hO hb;have hl:s.yRU id≠.none:=by grind
    obtain⟨h1,h2⟩:=yaZ ho;refine⟨_,rfl,λj c hj=>?_⟩;obtain⟨x,hx,hxy⟩:=h2 j (.c c) (by grind);rw[zbD]at hx;obtain⟨u,hu,hru⟩:=r3 _ x hx;refine⟨hG b (yBU h hl (.inl hb)),u,by grind [add_lit,cell_of],?_⟩;exact ysf h hG hru hxy
   grind
  grind
 .refine yxS (ysf h hG ?_ ho);cases x<;>first|exact hx|exact ho.elim|(rename_i h1 h2 h3;exact(h1 _ rfl).elim)|(rename_i h1 h2 h3;exact(h2 _ _ rfl).elim)
theorem ykY{G':Nat->Prop}(hG:∀b,Good g s.yRU blk w b->G' b)(hx:RVs g s w blk v x)(hd:x.nU=true)(ho:nZ s x y):RV w G' noO noB v y:=by
 have one:∀{v:Value} {x y:AV},x.yoa=true->RV1 w (Good g s.yRU blk w) s.yRU blk v x->out1 s x y->RV1 w G' noO noB v y:=by
  intro v x y hd hx ho;have:=yz5 (O':=noO) (bl':=noB) hG hd hx;cases x<;>simp[AV.yoa]at hd
  .cases ho;omega
  .rcases ho with⟨k,rfl⟩|⟨k,rfl⟩
   .cases hx;exact yjq
   .exact this
  .rcases ho with rfl|rfl
   .obtain⟨_,_,_,hr⟩:=this;exact hr
   omega
  .cases ho;omega
 cases x
 case agg l=>
  unfold nZ at ho;simp only at ho;split at ho
  .rename_i l';obtain⟨arr,e,hs,hl⟩:=hx;obtain⟨h1,h2⟩:=yaZ ho;refine⟨arr,e,by omega,λj z hj=>?_⟩;obtain⟨x,hx,hxy⟩:=h2 j z hj;obtain⟨u,hu,hru⟩:=hl j x hx;exact⟨u,hu,one (zaf.1 hd x (zac hx)) hru hxy⟩
  grind
 case fn f l=>
  unfold nZ at ho;simp only at ho;split at ho
  .rename_i f' l';obtain⟨rfl,ho⟩:=ho;obtain⟨arr,e,hs,hl⟩:=hx;obtain⟨h1,h2⟩:=yaZ ho;refine⟨arr,e,by omega,λj z hj=>?_⟩;obtain⟨x,hx,hxy⟩:=h2 j z hj;obtain⟨u,hu,hru⟩:=hl j x hx;exact⟨u,hu,one (zaf.1 hd x (zac hx)) hru hxy⟩
  grind
 case c z=>
  have ho':out1 s (.c z) y:=ho;exact yvp (one (x:=.c z) rfl (RVs.one1 hx rfl) ho')
 case nil k=>
  have ho':out1 s (.nil k) y:=ho;exact yvp (one (x:=.nil k) rfl (RVs.one1 hx rfl) ho')
 case clip k rows=>
  have ho':out1 s (.clip k rows) y:=ho;exact yvp (one (x:=.clip k rows) rfl (RVs.one1 hx rfl) ho')
 case elt cs=>
  have ho':out1 s (.elt cs) y:=ho;exact yvp (one (x:=.elt cs) rfl (RVs.one1 hx rfl) ho')
 all_goals grind [AV.nU,AV.yoa]
theorem yu9{G G':Nat->Prop}{O:Nat->Obj}{bl:Nat->Option Nat}(hG:∀b,G b->G' b)(h:RV1 w G noO noB v x):RV1 w G' O bl v x:=by
 cases x with
 |any=>trivial
 |und=>exact h
 |c x=>exact Rd.mono h hG (λ_ _ _ h=>h)
 |nil k=>exact h
 |clip k rows=>obtain⟨a,n,e,hr⟩:=h;exact⟨a,n,e,hr.mono hG (λ_ _ _ h=>h)⟩
 |box id off=>obtain⟨b,cells,ho,r⟩:=h;cases ho
 |row id k i off=>obtain⟨b,cells,ho,r⟩:=h;cases ho
 |elt cs=>obtain⟨ad,e,hc⟩:=h;exact⟨ad,e,λj c hj=>let⟨hg,u,hu,hr⟩:=hc j c hj;⟨hG _ hg,u,hu,hr.mono hG (λ_ _ _ h=>h)⟩⟩
 |own id k n=>obtain⟨rows,ho,r⟩:=h;cases ho
 |sub id ver i j k n=>obtain⟨_,_,_,ho,r⟩:=h;cases ho
 |yak id ver i j k i' off=>obtain⟨_,_,_,ho,r⟩:=h;cases ho
 |mpr id=>obtain⟨_,_,ho,r⟩:=h;cases ho
 |gl b o=>exact⟨hG _ h.1,h.2⟩
 |cut id k lo n=>obtain⟨_,_,_,ho,r⟩:=h;cases ho
 |fn f l=>exact h
 |agg l=>exact h
 |tup l=>exact h
theorem yAI{G G':Nat->Prop}{O:Nat->Obj}{bl:Nat->Option Nat}(hG:∀b,G b->G' b)(h:RV2 w G noO noB v x):RV2 w G' O bl v x:=by
 cases x
 case agg l=>obtain⟨arr,e,hs,hl⟩:=h;exact⟨arr,e,hs,λj x hj=>let⟨u,hu,hr⟩:=hl j x hj;⟨u,hu,yu9 hG hr⟩⟩
 case fn f l=>obtain⟨arr,e,hs,hl⟩:=h;exact⟨arr,e,hs,λj x hj=>let⟨u,hu,hr⟩:=hl j x hj;⟨u,hu,yu9 hG hr⟩⟩
 all_goals grind [yu9,RV2]
theorem yey{G G':Nat->Prop}{O:Nat->Obj}{bl:Nat->Option Nat}(hG:∀b,G b->G' b)(h:RV w G noO noB v x):RV w G' O bl v x:=by
 cases x
 case tup l=>obtain⟨arr,e,hs,hl⟩:=h;exact⟨arr,e,hs,λj x hj=>let⟨u,hu,hr⟩:=hl j x hj;⟨u,hu,yAI hG hr⟩⟩
 all_goals grind [yAI,RV]
def yuS{G G':Nat->Prop}{O:Nat->Obj}{bl:Nat->Option Nat}(hx:x.yoo=true)(h:RV1 w G noO noB v x):RV1 w G' O bl v x:=by
 cases x<;>simp[AV.yoo]at hx;rename_i c;have hr:Rd w G v c:=h;cases c<;>simp at hx<;>cases hr
 .exact Rd.i ‹_›
 .exact Rd.b
 .exact Rd.u ‹_›
 .exact Rd.q ‹_›
 .exact Rd.s ‹_›
theorem ytb{G G':Nat->Prop}{O:Nat->Obj}{bl:Nat->Option Nat}(hx:x.yse=true)(h:RV2 w G noO noB v x):RV2 w G' O bl v x:=by
 cases x
 case agg l=>obtain⟨arr,e,hs,hl⟩:=h;exact⟨arr,e,hs,λj x hj=>let⟨u,hu,hr⟩:=hl j x hj;⟨u,hu,yuS (zaf.1 hx x (zac hj)) hr⟩⟩
 case fn f l=>grind [AV.yse,AV.yoo]
 all_goals(simp only[RV2]at h|-;exact yuS hx h)
def ybN{G G':Nat->Prop}{O:Nat->Obj}{bl:Nat->Option Nat}(hx:x.scalar=true)(h:RV w G noO noB v x):RV w G' O bl v x:=by
 cases x
 case tup l=>obtain⟨arr,e,hs,hl⟩:=h;exact⟨arr,e,hs,λj x hj=>let⟨u,hu,hr⟩:=hl j x hj;⟨u,hu,ytb (zaf.1 hx x (zac hj)) hr⟩⟩
 all_goals(simp only[RV]at h|-;exact ytb hx h)
end
section
variable {P:Program} {f:Nat} {s:St} {d:Option Nat} {avs args:List AV} {res:AV} {K:St->Prop}
def mD(hp:qB P f args res)(ho:iO s avs args)(hs:res.scalar=true)(hK:K (s.put d res)):yat P f avs d s K:=by
 intro g a w blk h hd vs hvs hv;obtain⟨h1,h2⟩:=yV ho;refine(hp w (All g w) (λb hb=>yBS h hb) vs (by omega) (λj y hj=>?_)).mono ?_
 .obtain⟨x,hx,hxy⟩:=h2 j y hj;obtain⟨u,hu,hru⟩:=hv j x hx;exact⟨u,hu,yhR (yoq h (λ_ h=>h) hru hxy)⟩
 .rintro e w' ⟨v,rfl,hb,hr⟩
  exact⟨v,rfl,_,blk,hK,(h.call hb).put hd (ybN hs hr)⟩
theorem iF(hp:qB P f args res)(ho:iO s avs args)(hdat:avs.all AV.nU=true)(hK:K (s.put d res)):yat P f avs d s K:=by
 intro g a w blk h hd vs hvs hv;obtain⟨h1,h2⟩:=yV ho;refine(hp w (Good g s.yRU blk w) (λb hb=>ycl h hb) vs (by omega) (λj y hj=>?_)).mono ?_
 .obtain⟨x,hx,hxy⟩:=h2 j y hj;obtain⟨u,hu,hru⟩:=hv j x hx;exact⟨u,hu,ykY (λ_ h=>h) hru (zaf.1 hdat x (zac hx)) hxy⟩
 .rintro e w' ⟨v,rfl,hb,hr⟩
  have h':=h.call hb;refine⟨v,rfl,_,blk,hK,h'.put hd (yey (λb hb'=>?_) hr)⟩;rcases hb' with hg|⟨e1,e2⟩
  .refine⟨?_,hg.2⟩;rcases hg.1 with e|e
   .grind
   .exact .inr ⟨e.1,by have:=hb.size;omega⟩
  .refine⟨.inr ⟨by have:=h.below.size;omega,e2⟩,λid hid e=>?_⟩;have:=(h.new id b hid e).2;omega
end
end Go.Proofs.YtdadkiofenhnbaaGreat
namespace Go.Proofs.YtdadkiofenhnbaaGreat
open Go.RowKit
def kX(ob:Nat->Obj):St:=⟨λ_=>.any,ob⟩
def yw8(P:Program)(f:Nat)(avs:List AV)(ob:Nat->Obj)(k:AV->Prop):Prop:=
 ∃args res,qB P f args res/\iO (kX ob) avs args/\(avs.all AV.nU=true\/res.scalar=true)/\k res
def yhz(P:Program)(f:AV)(avs:List AV)(ob:Nat->Obj)(k:AV->Prop):Prop:=
 match f with
 | .fn f l=>(∃fn,P.funcs[f]?=some fn∧fn.body.isSome=true∧(fn.name != "runtime.NumGoroutine")=true)∧yw8 P f (avs++l) ob k
 |_=>False
def dJ(P:Program)(op:IOp)(ev:X->AV)(ob:Nat->Obj)(k:AV->Prop):Prop:=
 match op with
 | .mv x=>k (ev x)
 | .pick c a b=>ydP (ev c) (ev a) (ev b) k
 | .bin op x y=>yvc op (ev x) (ev y) k
 | .beq n x y=>yr8 n (ev x) (ev y) k
 | .not x=>notP (ev x) k
 | .neg x=>yyb (ev x) k
 | .idx n x i=>ymX n (kX ob) (ev x) (ev i) k
 | .ida m n x i=>yve m n (ev x) (ev i) k
 | .fld off x=>yny off (kX ob) (ev x) k
 | .ld1 x=>ylI (kX ob) (ev x) k
 | .ldn n x=>ylz n (kX ob) (ev x) k
 | .slc n x lo hi mx=>yhr n (ev x) (lo.map ev) (hi.map ev) (mx.map ev) k
 | .sla m n x h=>ypt m n (kX ob) (ev x) (ev h) k
 | .len x=>ylv (kX ob) (ev x) k
 | .slen x=>yom (ev x) k
 | .mn xs=>mmP (λx y=>if y<x then y else x) (xs.map ev) k
 | .mx xs=>mmP (λx y=>if x<y then y else x) (xs.map ev) k
 | .ext i x=>yrj i (ev x) k
 | .call f xs=>yw8 P f (xs.map ev) ob k
 | .ixs x i=>yyw (ev x) (ev i) k
 | .nck x=>ypl (ev x) k
 | .cvt 0 x=>yco 0 (kX ob) (ev x) k
 | .cvt 1 x=>yco 1 (kX ob) (ev x) k
 | .cvt 3 x=>yco 3 (kX ob) (ev x) k
 | .seq n x y=>yvw n (ev x) (ev y) k
 | .eqn n q x y=>yy1 n q (ev x) (ev y) k
 | .scat x y=>yn9 (ev x) (ev y) k
 | .bit op x y=>ykN op (ev x) (ev y) k
 | .binu op x y=>ydd op (ev x) (ev y) k
 | .binw op x y=>ylX op (ev x) (ev y) k
 | .sls x lo hi=>yuk (ev x) (lo.map ev) (hi.map ev) k
 | .mkf f xs=>(xs.map ev).all AV.lH=true/\k (.fn f (xs.map ev))
 | .bld zs ps=>yd6 ⟨λt=>ev (.t t),ob⟩ ps zs λl=>k (.agg l)
 | .callv f xs=>yhz P (ev f) (xs.map ev) ob k
 |_=>False
def ygj(P:Program)(i:Ins)(ev:X->AV)(ob:Nat->Obj)(k:AV->Prop):Prop:=
 match i.g with
 |none=>dJ P i.op ev ob k
 |some (t,want)=>fZ (ev (.t t)) want (dJ P i.op ev ob k) (k .und)
def wpQ(P:Program):List Ins->St->(St->Prop)->Prop
 |[],s,K=>K s
 |i::l,s,K=>ygj P i s.ev s.yRU λv=>wpQ P l (s.put i.d v) K
section
variable {P:Program} {g:ySm} {s:St} {a:Act} {w:World} {blk:Lay} {ev ev':X->AV} {ob:Nat->Obj} {k:AV->Prop}
theorem ytp{x:X}(hk:∀a,ev (.k a)=ev' (.k a))(h:∀t,t∈x.tm->ev (.t t)=ev' (.t t)):ev x=ev' x:=by
 cases x with
 |t n=>grind [X.tm]
 |k a=>grind
def yz9{x:Option X}(hk:∀a,ev (.k a)=ev' (.k a))(h:∀t,t∈X.tmo x->ev (.t t)=ev' (.t t)):x.map ev=x.map ev':=by
 cases x with
 |none=>rfl
 |some x=>simp only[zaT];rw[ytp hk h]
theorem yHv(hk:∀a,ev (.k a)=ev' (.k a)):∀{xs:List X},(∀t,t∈xs.flatMap X.tm->ev (.t t)=ev' (.t t))->xs.map ev=xs.map ev'
 |[],_=>rfl
 |x::xs,h=>by
  simp only[zaC];rw[ytp hk (λt ht=>h t (by grind)),yHv hk (xs:=xs) (λt ht=>h t (by grind))]
theorem ycu{s s':St}{K:List AV->Prop}:∀{ps:List (Nat×Nat×X)} {l:List AV},(∀x,x∈ps.map (λp=>p.2.2)->s.ev x=s'.ev x)->yd6 s ps l K=yd6 s' ps l K
 |[],l,_=>rfl
 |(o,n,x)::ps,l,h=>by
  simp only[yd6];rw[h x (by simp),ycu (ps:=ps) (λy hy=>h y (by grind))]
def yuR{op:IOp}{l:List Nat}(hl:op.reads=some l)(hk:∀a,ev (.k a)=ev' (.k a))(h:∀t,t∈l->ev (.t t)=ev' (.t t)):dJ P op ev ob k=dJ P op ev' ob k:=by
 unfold IOp.reads at hl;split at hl<;>first|cases hl|skip
 all_goals simp only[dJ]
 all_goals first
  |rw[ytp hk h]
  |rw[h _ (by simp)]
  |rw[yHv hk h]
  |(rename_i f xs;rw[ytp (x:=f) hk (λt ht=>h t (by simp[ht])),yHv (xs:=xs) hk (λt ht=>h t (zaQ _ ht))])
  |(rename_i zs ps;refine ycu λx hx=>?_;cases x with
   |t n=>exact h n (zaI.2 ⟨_,hx,by simp[X.tm]⟩)
   |k a=>rfl)
  |(rename_i c a b;rw[ytp (x:=c) hk (λt ht=>h t (by simp[ht])),ytp (x:=a) hk (λt ht=>h t (by simp[ht])),ytp (x:=b) hk (λt ht=>h t (by simp[ht]))])
  |(rename_i x y;rw[ytp (x:=x) hk (λt ht=>h t (by simp[ht])),ytp (x:=y) hk (λt ht=>h t (by simp[ht]))])
  |(rename_i x lo hi;rw[ytp (x:=x) hk (λt ht=>h t (by simp[ht])),yz9 (x:=lo) hk (λt ht=>h t (by simp[ht])),yz9 (x:=hi) hk (λt ht=>h t (by simp[ht]))])
  |(rename_i x lo hi m;rw[ytp (x:=x) hk (λt ht=>h t (by simp[ht])),yz9 (x:=lo) hk (λt ht=>h t (by simp[ht])),yz9 (x:=hi) hk (λt ht=>h t (by simp[ht])),yz9 (x:=m) hk (λt ht=>h t (by simp[ht]))])
def yCg{i:Ins}{l:List Nat}(hl:i.reads=some l)(hk:∀a,ev (.k a)=ev' (.k a))(h:∀t,t∈l->ev (.t t)=ev' (.t t)):ygj P i ev ob k=ygj P i ev' ob k:=by
 unfold Ins.reads at hl;simp only[zam]at hl;obtain⟨m,hm,rfl⟩:=hl;unfold ygj;cases hg:i.g with
 |none=>rw[hg]at h;exact yuR hm hk h
 |some p=>
  obtain⟨t,want⟩:=p;rw[hg]at h;simp only at h|-;rw[h t (by simp),yuR hm hk (λt ht=>h t (by simp[ht]))]
def ynN(s:St):∀(l l':List AV),ycm (kX s.yRU) l l'=ycm s l l'
 |[],[]=>rfl
 |[],_::_=>rfl
 |_::_,[]=>rfl
 |x::l,y::l'=>by
  simp only[ycm,ynN s l l'];rfl
def yIj(s:St)(x y:AV):nZ (kX s.yRU) x y=nZ s x y:=by
 have e:∀id,(kX s.yRU).ob id=s.ob id:=λ_=>rfl;unfold nZ;split
 .split
  .exact ynN s _ _
  .rfl
 .split
  .rw[ynN]
  .rfl
 .rw[e];split
  .split
   .exact ynN s _ _
   .rfl
  .rfl
 .rfl
def yam(s:St):∀(l l':List AV),iO (kX s.yRU) l l'=iO s l l'
 |[],[]=>rfl
 |[],_::_=>rfl
 |_::_,[]=>rfl
 |x::l,y::l'=>by
  simp only[iO,yam s l l',yIj]
def ywP{op:IOp}{l:List Nat}(hl:op.reads=some l){d:Option Nat}{K:St->Prop}(h:dJ P op s.ev s.yRU λv=>K (s.put d v)):kF P d op s K:=by
 unfold IOp.reads at hl;split at hl<;>first|cases hl|skip
 all_goals simp only[dJ]at h
 all_goals simp only[kF]
 all_goals first
  |exact h
  | (obtain⟨args,res,h1,h2,h3,h4⟩:=h
     rw[yam]at h2;rcases h3 with h3|h3
     .exact iF h1 h2 h3 h4
     .exact mD h1 h2 h3 h4)
  | (rename_i f xs
     revert h;generalize s.ev f=fv;intro h;unfold yhz at h;unfold ypK;split at h
     .obtain⟨hf,args,res,h1,h2,h3,h4⟩:=h;rw[yam]at h2;refine⟨hf,?_⟩;rcases h3 with h3|h3
      .exact iF h1 h2 h3 h4
      .exact mD h1 h2 h3 h4
     .exact h.elim)
  |(rw[<-ycu (s:=⟨λt=>s.ev (.t t),s.yRU⟩) (s':=s) (λx _=>by cases x<;>rfl)];exact h)
def xW(F:(AV->Prop)->Prop):Prop:=∀k:AV->Prop,F k->∃r,k r/\∀k':AV->Prop,k' r->F k'
def xW.rP(r:AV):xW λk=>k r:=λ_ h=>⟨r,h,λ_ h=>h⟩
def xW.pG:xW λ_=>False:=λ_ h=>h.elim
def xW.and(p:Prop){F:(AV->Prop)->Prop}(h:xW F):xW λk=>p/\F k:=λk ⟨hp,hk⟩=>let⟨r,h1,h2⟩:=h k hk;⟨r,h1,λk' h'=>⟨hp,h2 k' h'⟩⟩
def xW.imp{p:Prop}(hp:p){F:(AV->Prop)->Prop}(h:xW F):xW λk=>p->F k:=λk hk=>let⟨r,h1,h2⟩:=h k (hk hp);⟨r,h1,λk' h' _=>h2 k' h'⟩
def yEZ(c a b:AV):xW (ydP c a b):=by
 unfold ydP;split
 .split
  .exact .rP _
  .rename_i t _ _ _;intro k h;cases t
   .exact⟨_,h.2 rfl,λk' h'=>⟨λe=>(by cases e),λ_=>h'⟩⟩
   .exact⟨_,h.1 rfl,λk' h'=>⟨λ_=>h',λe=>(by cases e)⟩⟩
 .exact .pG
def yFp(op:BinOp)(x y:AV):xW (yvc op x y):=by
 unfold yvc;split
 .unfold yni;split<;>first|exact .rP _|exact .pG|exact .and _ (.rP _)|exact .and _ (.and _ (.rP _))
 .exact .pG
def yGB(n:Bool)(x y:AV):xW (yr8 n x y):=by
 unfold yr8;split<;>first|exact .rP _|exact .pG
def yGS(x:AV):xW (notP x):=by unfold notP;split<;>first|exact .rP _|exact .pG
def yHA(x:AV):xW (yyb x):=by unfold yyb;split<;>first|exact .and _ (.rP _)|exact .pG
def yG5(n:Nat)(s:St)(x y:AV):xW (ymX n s x y):=by
 unfold ymX;split
 case h_5=>split<;>first|exact .and _ (.and _ (.and _ (.and _ (.rP _))))|exact .pG
 all_goals first|exact .and _ (.and _ (.and _ (.rP _)))|exact .pG
def yFs(m n:Nat)(x y:AV):xW (yve m n x y):=by unfold yve;split<;>first|exact .and _ (.and _ (.and _ (.and _ (.rP _))))|exact .pG
def yGa(n:Nat)(s:St)(x:AV):xW (yny n s x):=by
 unfold yny;split
 case h_4=>split<;>first|exact .and _ (.rP _)|exact .pG
 all_goals first|exact .rP _|exact .pG
def yGU(x:AV):xW (ypl x):=by unfold ypl;split<;>first|exact .rP _|exact .pG
def yvk(n:Nat)(hn:n=0\/n=1\/n=3)(s:St)(x:AV):xW (yco n s x):=by
 rcases hn with rfl|rfl|rfl
 .unfold yco;simp only;split<;>first|exact .rP _|exact .and _ (.rP _)|exact .pG
 .unfold yco;simp only;split<;>first|exact .rP _|exact .pG
 .unfold yco;simp only;split<;>first|exact .and _ (.rP _)|exact .pG
def yFP(n:Bool)(q:Nat)(x y:AV):xW (yy1 n q x y):=by
 unfold yy1;split
 .split
  .rename_i m n' _ _
   by_cases h:m.length=q/\n'.length=q
   .simp only[h.1,h.2,true_and];exact .rP _
   .have:∀k:Prop,(m.length=q/\n'.length=q/\k)=False:=λk=>by simp only[eq_iff_iff,iff_false];exactλe=>h ⟨e.1,e.2.1⟩
    simp only[this];exact .pG
  .exact .pG
 .exact .pG
def yGp(n:Bool)(x y:AV):xW (yvw n x y):=by unfold yvw;split<;>first|exact .rP _|exact .pG
def yEf(x y:AV):xW (yn9 x y):=by unfold yn9;split<;>first|exact .and _ (.rP _)|exact .pG
def yGR(op:BinOp)(x y:AV):xW (ykN op x y):=by
 unfold ykN;split
 .split<;>first|exact .rP _|exact .and _ (.rP _)|exact .pG
 .split<;>first|exact .rP _|exact .and _ (.rP _)|exact .pG
 .exact .pG
def yD6(op:BinOp)(x y:AV):xW (ydd op x y):=by
 unfold ydd;split
 .split<;>first|exact .rP _|exact .pG
 .exact .pG
def yEN(op:BinOp)(x y:AV):xW (ylX op x y):=by
 unfold ylX;split
 .split<;>first|exact .rP _|exact .pG
 .exact .pG
def yGY(x:AV)(lo hi:Option AV):xW (yuk x lo hi):=by
 unfold yuk;split<;>first|exact .pG|exact .and _ (.and _ (.rP _))|exact .and _ (.and _ (.and _ (.rP _)))
def yFk(s:St)(x:AV):xW (ylI s x):=by
 unfold ylI;split
 .split
  .split<;>first|exact .rP _|exact .pG
  .exact .pG
 .split<;>first|exact .and _ (.and _ (.and _ (.rP _)))|exact .pG
 .split
  .refine .and _ ?_;split<;>first|exact .and _ (.and _ (.and _ (.rP _)))|exact .pG
  .exact .pG
 .split<;>first|exact .rP _|exact .pG
 .exact .pG
def yHi(n:Nat)(s:St)(x:AV):xW (ylz n s x):=by
 unfold ylz;split
 .split<;>first|exact .and _ (.rP _)|exact .pG
 .split<;>first|exact .and _ (.and _ (.and _ (.rP _)))|exact .pG
 .split
  .refine .and _ ?_;split<;>first|exact .and _ (.and _ (.and _ (.rP _)))|exact .pG
  .exact .pG
 .exact .and _ (.rP _)
 .exact .pG
def yFY(n:Nat)(x:AV)(lo hi m:Option AV):xW (yhr n x lo hi m):=by
 unfold yhr;split<;>first|exact .pG|exact .and _ (.rP _)|exact .and _ (.and _ (.rP _))|exact .and _ (.and _ (.and _ (.rP _)))|exact .and _ (.and _ (.and _ (.and _ (.rP _))))|exact .and _ (.and _ (.and _ (.and _ (.and _ (.rP _)))))
def yGT(m n:Nat)(s:St)(x y:AV):xW (ypt m n s x y):=by
 unfold ypt;split
 .split<;>first|exact .pG|exact .and _ (.and _ (.and _ (.and _ (.and _ (.rP _)))))
 .exact .pG
def yIM(f:Int->Int->Int)(l:List AV):xW (mmP f l):=by unfold mmP;split<;>first|exact .rP _|exact .pG
def yHs(i:Nat)(x:AV):xW (yrj i x):=by
 unfold yrj;split
 .split<;>first|exact .and _ (.rP _)|exact .pG
 .split<;>first|exact .and _ (.rP _)|exact .pG
 .exact .pG
def yHp(x y:AV):xW (yyw x y):=by unfold yyw;split<;>first|exact .and _ (.and _ (.rP _))|exact .pG
def yxz(f:Nat)(avs:List AV)(ob:Nat->Obj):xW (yw8 P f avs ob):=
 λ_ ⟨args,res,h1,h2,h3,h4⟩=>⟨res,h4,λ_ h'=>⟨args,res,h1,h2,h3,h'⟩⟩
def yCH(f:AV)(avs:List AV)(ob:Nat->Obj):xW (yhz P f avs ob):=by
 unfold yhz;split
 .exact .and _ (yxz _ _ _)
 .exact .pG
def yxr(s:St):∀(ps:List (Nat×Nat×X)) (l:List AV),xW λk=>yd6 s ps l λl=>k (.agg l)
 |[],l=>.rP _
 |(o,n,x)::ps,l=>by
  simp only[yd6];exact .and _ (.and _ (.and _ (yxr s ps _)))
def yGX(h:Repr g s a w blk){v:Value}{x:AV}(hx:RVs g s w blk v x):xW (ylv s x):=by
 have rd:∀{n:Nat} {rows:List (List C)},Rd w (Good g s.yRU blk w) v (.sl n rows)->rows.length<=maxLen:=by
  intro n rows hr;cases hr;omega
 unfold ylv;split
 .exact .imp (rd hx.c) (.rP _)
 .obtain⟨_,_,_,hr⟩:=hx;exact .imp (rd hr) (.rP _)
 .rename_i id n m;obtain⟨rows,_,_,hh⟩:=hx;refine .imp ?_ (.rP _);rcases hh with⟨_,e0,_⟩|⟨_,_,_,_,_,_,e1,e2,_⟩
  .omega
  .omega
 .obtain⟨_,_,_,_,_,_,h1,h2,_⟩:=hx;exact .imp (by omega) (.rP _)
 .split
  .rename_i k0 ver' rows hO;intro k hk;obtain⟨rfl,hk⟩:=hk;obtain⟨A,cap,_,hm⟩:=yqs h hO hx;exact⟨_,hk hm,λk' h'=>⟨rfl,λ_=>h'⟩⟩
  .exact .pG
 .exact .rP _
 .exact .pG
def yEw{v:Value}{x:AV}(h:RVs g s w blk v x):xW (yom x):=by
 unfold yom;split
 .exact .imp h.str.2 (.rP _)
 .exact .pG
def yDE(h:Repr g s a w blk)(t:Nat):RVs g s w blk (g.val a t) (s.ev (.t t)):=h.env t
def yAB(h:Repr g s a w blk){op:IOp}{l:List Nat}(hl:op.reads=some l):xW (dJ P op s.ev s.yRU):=by
 unfold IOp.reads at hl;split at hl<;>first|cases hl|skip
 all_goals unfold dJ
 all_goals first
  |exact .rP _
  |exact yGS _
  |exact yHA _
  |exact yGa _ _ _
  |exact yFk _ _
  |exact yHi _ _ _
  |exact yHs _ _
  |exact yGX (s:=s) h (yDE h _)
  |exact yEw (yDE h _)
  |exact yGU _
  |exact yvk _ (.inl rfl) _ _
  |exact yvk _ (.inr (.inl rfl)) _ _
  |exact yvk _ (.inr (.inr rfl)) _ _
  |exact yGp _ _ _
  |exact yFP _ _ _ _
  |exact yEf _ _
  |exact yGR _ _ _
  |exact yD6 _ _ _
  |exact yEN _ _ _
  |exact yGY _ _ _
  |exact .and _ (.rP _)
  |exact yEZ _ _ _
  |exact yFp _ _ _
  |exact yGB _ _ _
  |exact yG5 _ _ _ _
  |exact yFs _ _ _ _
  |exact yHp _ _
  |exact yFY _ _ _ _ _
  |exact yGT _ _ _ _ _
  |exact yIM _ _
  |exact yxz _ _ _
  |exact yCH _ _ _
  |exact yxr _ _ _
theorem yzz(h:Repr g s a w blk){i:Ins}{l:List Nat}(hl:i.reads=some l):xW (ygj P i s.ev s.yRU):=by
 unfold Ins.reads at hl;simp only[zam]at hl;obtain⟨m,hm,_⟩:=hl;have hd:=yAB (P:=P) h hm;unfold ygj;cases hg:i.g with
 |none=>exact hd
 | some p=>
  obtain⟨t,want⟩:=p;simp only;unfold fZ;intro k hk;split at hk
  .rename_i v hv
   by_cases e:v=want
   .obtain⟨r,h1,h2⟩:=hd k (hk.1 e);exact⟨r,h1,λk' h'=>⟨λ_=>h2 k' h',λe'=>(by subst e;cases v<;>cases e')⟩⟩
   .exact⟨.und,hk.2 (by cases v<;>cases want<;>simp_all),λk' h'=>⟨λe'=>absurd e' e,λ_=>h'⟩⟩
  .exact⟨.und,hk,λk' h'=>h'⟩
  .exact hk.elim
end
end Go.Proofs.YtdadkiofenhnbaaGreat
namespace Go.Proofs.YtdadkiofenhnbaaGreat
open Go.RowKit
def stE(s:St)(is:List Ins)(r:Nat->AV)(E:Nat->Bool):St:=
 ⟨λt=>match(List.range is.length).find? (λi=>E i&&(is[i]?).bind (·.d)==some t)with
  |some i=>r i
  |none=>s.env t,s.yRU⟩
section
variable {P:Program} {g:ySm} {N:Nat} {s:St} {a:Act} {w:World} {blk:Lay} {ops:Array Oper}
def ycA:∀{l:List Oper} {is:List Ins},yac P N ops l=some is->is.length=l.length/\∀(j:Nat) (o:Oper),l[j]?=some o->∃i,is[j]?=some i/\ybf P N ops o=some i
 |[],is,h=>by cases h;exact⟨rfl,λj o hj=>by simp at hj⟩
 | o::l,is,h=>by
  simp only[yac]at h;split at h
  .rename_i i is' h1 h2;cases h;obtain⟨e1,e2⟩:=ycA h2;refine⟨by simp[e1],λj o' hj=>?_⟩;cases j with
   |zero=>simp at hj;subst hj;exact⟨i,rfl,h1⟩
   |succ j=>exact e2 j o' (by simpa using hj)
  .cases h
def yqR{o:Oper}{i:Ins}(h1:ybf P N ops o=some i):(∀d,o.dst=some d->d<N)/\∃op,ysm P o=some op/\i.d=o.dst/\i.op=op/\
 ((o.guard=none/\i.g=none)\/∃j want t,o.guard=some (j,want)/\(ops[j]?).bind (·.dst)=some t/\t<jV/\i.g=some (t,want)):=by
 constructor
 .intro j hj;unfold ybf at h1;split at h1
  .split at h1
   .rename_i e;rw[e]at hj;cases hj
   .rename_i d e
    by_cases hlt:d<N
    .rw[e]at hj;cases hj;exact hlt
    .rw[if_neg hlt]at h1;cases h1
  .cases h1
 .unfold ybf at h1;split at h1
  .rename_i op hop;refine⟨op,hop,?_⟩;split at h1
   .rename_i e;split at h1
    .rename_i eg;cases h1;exact⟨e.symm,rfl,.inl ⟨eg,rfl⟩⟩
    .rename_i j want eg;split at h1
     .rename_i t ht;split at h1
      .rename_i hlt;cases h1;exact⟨e.symm,rfl,.inr ⟨j,want,t,eg,ht,hlt,rfl⟩⟩
      .cases h1
     .cases h1
   .rename_i d e;split at h1
    .split at h1
     .rename_i eg;cases h1;exact⟨e.symm,rfl,.inl ⟨eg,rfl⟩⟩
     .rename_i j want eg;split at h1
      .rename_i t ht;split at h1
       .rename_i hlt;cases h1;exact⟨e.symm,rfl,.inr ⟨j,want,t,eg,ht,hlt,rfl⟩⟩
       .cases h1
      .cases h1
    .cases h1
  .cases h1
theorem ytS(hN:g.N=N)(h:Repr g s a w blk){o:Oper}{i:Ins}(hc:ybf P N ops o=some i){l:List Nat}(hl:i.reads=some l){r:AV}(hv:∀k':AV->Prop,k' r->ygj P i s.ev s.yRU k'):
 (Region.wanted o (yielded ops a.tmps)=true/\iE P g o a w (λs'=>s'=s.put i.d r))\/
 (Region.wanted o (yielded ops a.tmps)=false/\Repr g (s.put i.d r) (a.put o.dst undef) w blk):=by
 obtain⟨hd0,op,hop,hid,hiop,hg⟩:=yqR hc;have hd:∀d,o.dst=some d->d<g.N:=by rw[hN];exact hd0
 unfold Ins.reads at hl;simp only[zam]at hl;obtain⟨m,hm,_⟩:=hl
 have doit:dJ P i.op s.ev s.yRU (λv=>v=r)->iE P g o a w (λs'=>s'=s.put i.d r):=by
  intro hval;refine step_ok h hd hop ?_;rw[<-hiop];refine ywP hm ?_;rw[<-hid];obtain⟨r',hr',hall⟩:=yAB (P:=P) h hm _ hval;exact hall _ (by rw[hr'])
 rcases hg with⟨e1,e2⟩|⟨j,want,t,e1,e2,htl,e3⟩
 .refine .inl ⟨by simp[Region.wanted,e1],doit ?_⟩;have:=hv (λv=>v=r) rfl;unfold ygj at this;rw[e2]at this;exact this
 .have hq:=hv (λv=>v=r) rfl;unfold ygj at hq;rw[e3]at hq;simp only[St.ev]at hq;have hen:=h.at_ htl
  have hy:∀v:Bool,a.tmps.getD t undef=.bool v->yielded ops a.tmps j=some v:=by
   intro v hv;unfold yielded;rw[e2];simp only[zcg]
   have:a.tmps[t]?=some (.bool v):=by
    rw[zan]at hv;cases hq:a.tmps[t]? with
    |none=>rw[hq]at hv;simp[undef]at hv
    |some u=>rw[hq]at hv;simp at hv;rw[hv]
   rw[this]
  unfold fZ at hq;split at hq
  .rename_i v hvv;rw[hvv]at hen;have hb:=hen.bool
   by_cases e:v=want
   .exact .inl ⟨by simp[Region.wanted,e1,hy v hb,e],doit (hq.1 e)⟩
   .have hr:=hq.2 (by cases v<;>cases want<;>simp_all);refine .inr ⟨by simp[Region.wanted,e1,hy v hb,e],?_⟩;rw[<-hr,hid];exact h.put hd (v:=undef) (x:=.und) (show undef=undef from rfl)
  .rename_i hvv;rw[hvv]at hen;have hu:a.tmps.getD t undef=undef:=hen
   have hyn:yielded ops a.tmps j=none:=by
    unfold yielded;rw[e2];simp only[zcg];cases hq:a.tmps[t]? with
    |none=>rfl
    |some u=>
     have:u=undef:=by rw[zan,hq]at hu;simpa using hu
     rw[this];rfl
   refine .inr ⟨by simp[Region.wanted,e1,hyn],?_⟩;rw[<-hq,hid];exact h.put hd (v:=undef) (x:=.und) (show undef=undef from rfl)
  .exact hq.elim
def iE.some_{o:Oper}{K:St->Prop}(h:iE P g o a w K):∃s' a' w' blk',K s'/\Repr g s' a' w' blk':=by
 obtain⟨nx,w',hr,h⟩:=h;cases nx with
 |value v=>obtain⟨s',blk',k,r⟩:=h;exact⟨_,_,_,_,k,r⟩
 |skip=>obtain⟨s',blk',k,r⟩:=h;exact⟨_,_,_,_,k,r⟩
 |enter f args=>
  obtain⟨e,w2,fr,⟨v,_,s',blk',k,r⟩,_⟩:=h [];exact⟨_,_,_,_,k,r⟩
 |_=>exact h.elim
def yDi{is:List Ins}{r:Nat->AV}{E:Nat->Bool}{m:Nat}{i:Ins}(hi:is[m]?=some i)(hm:E m=false)(hdist:∀(j:Nat) (x:Ins),is[j]?=some x->j≠m->x.d.isNone=true\/x.d≠i.d):
 stE s is r (λj=>E j||j==m)=(stE s is r E).put i.d (r m):=by
 have hml:m<is.length:=(zaa.1 hi).1;cases hd:i.d with
 | none=>
  show stE s is r (λj=>E j||j==m)=stE s is r E
  unfold stE
  congr 1
  funext t
  have:(λj=>(E j||j==m)&&(is[j]?).bind (·.d)==some t)=λj=>E j&&(is[j]?).bind (·.d)==some t:=by
   funext j
   by_cases e:j=m
   .subst e;simp[hi,hd]
   .have:(j==m)=false:=by simpa using e
    rw[this,zed]
  rw[this]
 | some d=>
  show stE s is r (λj=>E j||j==m)=⟨upd d (r m) (stE s is r E).env,(stE s is r E).yRU⟩
  unfold stE
  congr 1
  funext t
  rw[jG]
  by_cases e:t=d
  .subst e;rw[if_pos rfl]
   have:(List.range is.length).find? (λj=>(E j||j==m)&&(is[j]?).bind (·.d)==some t)=some m:=by
    rw[List.find?_eq_some_iff_append];refine⟨by simp[hi,hd],List.range m,(List.range is.length).drop (m+1),?_,?_⟩
    .conv=>lhs;rw[<-zav m (List.range is.length)]
     congr 1
     .rw[List.take_range,Nat.min_eq_left (by omega)]
     .rw[zaF (by simpa using hml)];simp
    .intro j hj;have hjm:j≠m:=by have:=zaN.1 hj;omega
     cases hx:is[j]? with
     |none=>simp
     | some x=>
      rcases hdist j x hx hjm with h1|h1
      .have:x.d=none:=by simpa using h1
       simp[this]
      .have:x.d≠some t:=by rw[<-hd];exact h1
       simp[this]
   rw[this]
  .rw[if_neg e]
   have:(λj=>(E j||j==m)&&(is[j]?).bind (·.d)==some t)=λj=>E j&&(is[j]?).bind (·.d)==some t:=by
    funext j
    by_cases e2:j=m
    .subst e2;simp[hi,hd,Ne.symm e]
    .have:(j==m)=false:=by simpa using e2
     rw[this,zed]
   rw[this]
def ygC{is:List Ins}{r r':Nat->AV}{E E':Nat->Bool}(h:∀j,j<is.length->E j=E' j/\(E j=true->r j=r' j)):stE s is r E=stE s is r' E':=by
 unfold stE
 congr 1
 funext t
 have:∀l:List Nat,(∀j∈l,j<is.length)->(match l.find? (λi=>E i&&(is[i]?).bind (·.d)==some t)with|some i=>r i|none=>s.env t)=(match l.find? (λi=>E' i&&(is[i]?).bind (·.d)==some t)with|some i=>r' i|none=>s.env t):=by
  intro l
  induction l with
  |nil=>intro _;rfl
  | cons j l ih=>
   intro hl;obtain⟨h1,h2⟩:=h j (hl j (by simp));simp only[zdN,<-h1];cases hE:(E j&&(is[j]?).bind (·.d)==some t)with
   |true=>
    simp only;have:E j=true:=by revert hE;cases E j<;>simp
    exact h2 this
   |false=>exact ih (λq hq=>hl q (by simp[hq]))
 exact this _ (λj hj=>zaN.1 hj)
def yum{is:List Ins}{r:Nat->AV}:stE s is r (λj=>decide (j<0))=s:=by
 obtain⟨env,yRU⟩:=s;unfold stE
 congr 1
 funext t
 have:(List.range is.length).find? (λi=>decide (i<0)&&(is[i]?).bind (·.d)==some t)=none:=by
  rw[List.find?_eq_none];intro j _;simp
 rw[this]
structure ySz(ops:Array Oper)(is:List Ins):Prop where
 len:is.length=ops.size
 rd:∀(j:Nat) (i:Ins),is[j]?=some i->i.reads.isSome=true
 back:∀(j:Nat) (o:Oper),ops[j]?=some o->∀e∈o.after,Region.binds .any e=true->e.on<j
 dist:∀(i j:Nat) (x y:Ins),i<j->is[i]?=some x->is[j]?=some y->x.d.isNone=true\/x.d≠y.d
 pair:∀(i j:Nat) (x y:Ins) (o:Oper),i<j->is[i]?=some x->is[j]?=some y->ops[j]?=some o->yx5 o i=true\/indep x y=true
def yCy{is:List Ins}(hl:is.length=ops.size)(h:yxP ops is=true):ySz ops is:=by
 unfold yxP at h;rw[zad,zaf,zaf]at h;obtain⟨h1,h2⟩:=h
 have key:∀(j:Nat) (o:Oper) (y:Ins),ops[j]?=some o->is[j]?=some y->(∀e∈o.after,Region.binds .any e=true->e.on<j)/\∀(i:Nat) (x:Ins),i<j->is[i]?=some x->yyQ o i x y=true:=by
  intro j o y ho hy;have hj:j<ops.size:=(zaJ.1 ho).1;have:=h2 j (zaN.2 hj);rw[ho,hy]at this;simp only[zad,zca,zbr,zbb,decide_eq_true_eq,zaf]at this;refine⟨λe he hb=>?_,λi x hi hx=>?_⟩
  .rcases this.1 e he with e1|e1
   .rw[hb]at e1;cases e1
   .exact e1
  .have:=this.2 i (zaN.2 hi);rw[hx]at this;exact this
 refine⟨hl,λj i hi=>h1 i (zac hi),λj o ho=>?_,λi j x y hij hx hy=>?_,λi j x y o hij hx hy ho=>?_⟩
 .have hj:j<is.length:=by rw[hl];exact(zaJ.1 ho).1
  exact(key j o _ ho (zab hj)).1
 .have hj:j<ops.size:=by rw[<-hl];exact(zaa.1 hy).1
  have:=(key j _ y (zaL hj) hy).2 i x hij hx;simp only[yyQ,zad,zbr,bne_iff_ne]at this;exact this.1
 .have:=(key j o y ho hy).2 i x hij hx;simp only[yyQ,zad,zbr,bne_iff_ne]at this;exact this.2
def yAP(hN:g.N=N){is:List Ins}{K:St->Prop}(hc:yac P N ops ops.toList=some is)(hq:ySz ops is)(h:Repr g s a w blk)(hw:wpQ P is s K):
 ∃r:Nat->AV,K (stE s is r (λj=>decide (j<is.length)))/\∀(j:Nat) (i:Ins),is[j]?=some i->∀k':AV->Prop,k' (r j)->ygj P i (stE s is r (λq=>decide (q<j))).ev s.yRU k':=by
 obtain⟨hlen,hget⟩:=ycA hc
 have key:∀m,m<=is.length->∃r:Nat->AV,wpQ P (is.drop m) (stE s is r (λj=>decide (j<m))) K/\(∃a' w' blk',Repr g (stE s is r (λj=>decide (j<m))) a' w' blk')/\
  ∀(j:Nat) (i:Ins),j<m->is[j]?=some i->∀k':AV->Prop,k' (r j)->ygj P i (stE s is r (λq=>decide (q<j))).ev s.yRU k':=by
  intro m
  induction m with
  |zero=>intro _;exact⟨λ_=>.any,by rw[yum];exact hw,⟨a,w,blk,by rw[yum];exact h⟩,λj i hj=>by omega⟩
  | succ m ih=>
   intro hm;obtain⟨r,h1,⟨a1,w1,blk1,h2⟩,h3⟩:=ih (by omega);have hi:=zab (show m<is.length by omega);revert hi;generalize is[m]=i;intro hi
   have hdrop:is.drop m=i::is.drop (m+1):=by
    rw[zaF (by omega)]
    congr 1
    rw[zab (by omega)]at hi;exact Option.some.inj hi
   rw[hdrop]at h1;obtain⟨l,hl⟩:=zcP.1 (hq.rd m i hi);obtain⟨rm,k1,k2⟩:=yzz (P:=P) h2 hl _ h1
   let r':Nat->AV:=λj=>if j=m then rm else r j
   have hsame:∀q,q<=m->stE s is r (λj=>decide (j<q))=stE s is r' (λj=>decide (j<q)):=λq hq=>ygC λj _=>⟨rfl,λhj=>by
    have:j<q:=by simpa using hj
    simp only[r'];rw[if_neg (by omega)]⟩
   have hdist:∀(j:Nat) (x:Ins),is[j]?=some x->j≠m->x.d.isNone=true\/x.d≠i.d:=by
    intro j x hx hjm;rcases zbY hjm with e|e
    .exact hq.dist j m x i e hx hi
    .rcases hq.dist m j i x e hi hx with e2|e2
     .have:i.d=none:=by simpa using e2
      rw[this];cases hxd:x.d with
      |none=>exact .inl rfl
      |some _=>exact .inr (by simp)
     .exact .inr (Ne.symm e2)
   have hput:stE s is r' (λj=>decide (j<m+1))=(stE s is r (λj=>decide (j<m))).put i.d rm:=by
    have e1:stE s is r' (λj=>decide (j<m+1))=stE s is r' (λj=>decide (j<m)||j==m):=ygC λj _=>⟨by
     by_cases e1:j<m
     .simp[e1];omega
     .by_cases e2:j=m
      .simp[e2]
      .have:¬j<m+1:=by omega
       simp[e1,e2,this],λ_=>rfl⟩
    rw[e1,yDi hi (by simp) hdist,hsame m (Nat.le_refl _)];simp[r']
   have hmo:m<ops.size:=by rw[<-hq.len];omega
   obtain⟨i',hi',hci⟩:=hget m _ (by rw[zcn];exact zaL hmo);rw[hi]at hi';cases hi';refine⟨r',by rw[hput];exact k1,?_,λj x hj hx k' hk'=>?_⟩
   .rw[hput];rcases ytS (ops:=ops) hN h2 hci hl k2 with⟨_,ho⟩|⟨_,ho⟩
    .obtain⟨s',a',w',blk',e,hr⟩:=ho.some_;rw[e]at hr;exact⟨a',w',blk',hr⟩
    .exact⟨_,_,_,ho⟩
   .by_cases e:j=m
    .subst e;rw[hi]at hx;cases hx;rw[<-hsame _ (Nat.le_refl _)];exact k2 k' (by simpa[r']using hk')
    .rw[<-hsame j (by omega)];exact h3 j x (by omega) hx k' (by simpa[r',e]using hk')
 obtain⟨r,h1,_,h3⟩:=key is.length (Nat.le_refl _);rw[List.drop_length]at h1;exact⟨r,h1,λj i hi=>h3 j i (zaa.1 hi).1 hi⟩
def yw5{md:Region.Mode}{e:Edge}(h:Region.binds .any e=true):Region.binds md e=true:=by
 unfold Region.binds at *;split at h
 .cases h
 .cases h
 .rfl
def yxM(md:Region.Mode)(ops:Array Oper)(rk:Nat->Nat):Prop:=
 ∀(j:Nat) (o:Oper),ops[j]?=some o->∀e∈o.after,Region.binds md e=true->rk e.on<rk j/\e.on<ops.size
def yxq{md:Region.Mode}{rk:Nat->Nat}(h:yzl md ops rk=true):yxM md ops rk:=by
 intro j o ho e he hb;unfold yzl at h;rw[zaf]at h;have:=h j (zaN.2 (zaJ.1 ho).1);rw[ho]at this;simp only[zca,zbr,zbb,zad,decide_eq_true_eq]at this;rcases this e he with h1|h1
 .rw[hb]at h1;cases h1
 .exact h1
def yBs{is:List Ins}(hq:ySz ops is):yxM .any ops (λj=>j):=by
 intro j o ho e he hb;have h1:=hq.back j o ho e he hb;exact⟨h1,Nat.lt_trans h1 (zaJ.1 ho).1⟩
def yE0 {md:Region.Mode} {rk:Nat->Nat} (hrk:yxM md ops rk) (hN:g.N=N) {is:List Ins} {Q:Exit->Act->World->Prop} (hc:yac P N ops ops.toList=some is) (hq:ySz ops is) {r:Nat->AV}
 (hdet:∀(j:Nat) (i:Ins),is[j]?=some i->∀k':AV->Prop,k' (r j)->ygj P i (stE s is r (λq=>decide (q<j))).ev s.yRU k')
 (hQ:∀a' w' blk',Repr g (stE s is r (λj=>decide (j<is.length))) a' w' blk'->Q .normal a' w'):
 ∀(fuel:Nat) (listed:Array Bool) (a:Act) (w:World) (blk:Lay),listed.size=ops.size->(∀(j:Nat) (o:Oper),ops[j]?=some o->listed.getD j true=true->∀e∈o.after,Region.binds .any e=true->listed.getD e.on false=true)->
  Repr g (stE s is r (λj=>listed.getD j false)) a w blk->((List.range ops.size).filter λj=>!listed.getD j true).length=fuel->wpAny P md ops Q fuel listed a w:=by
 obtain⟨hlen,hget⟩:=ycA hc;intro fuel
 have done:∀(listed:Array Bool) (a:Act) (w:World) (blk:Lay),listed.size=ops.size->Repr g (stE s is r (λj=>listed.getD j false)) a w blk->Region.ready md ops listed=[]->Q .normal a w:=by
  intro listed a w blk hs hr hnil;refine hQ a w blk ?_
  have hall:∀j,j<ops.size->listed.getD j false=true:=by
   have key:∀n j,rk j=n->j<ops.size->listed.getD j false=true:=by
    intro n
    induction n using Nat.strongRecOn with
    | _ n ih=>
     intro j hn hj;cases hl:listed.getD j false with
     |true=>rfl
     | false=>
      exfalso
      have:j∈Region.ready md ops listed:=by
       unfold Region.ready;rw[zbE];refine⟨zaN.2 hj,?_⟩
       have h1:listed.getD j true=false:=by
        rw[zan,zaL (by omega)]at hl|-;simpa using hl
       rw[zaL hj];simp only[h1,zaT,zbc,Bool.not_false,zaW,zca,zbr,zbb];intro e he;cases hb:Region.binds md e with
       |false=>exact .inl rfl
       |true=>
        obtain⟨h2,h3⟩:=hrk j _ (zaL hj) e he hb;exact .inr (ih _ (hn▸h2) e.on rfl h3)
      rw[hnil]at this;cases this
   exactλj hj=>key _ j rfl hj
  rw[ygC (E':=λj=>decide (j<is.length)) (r':=r)]at hr
  .exact hr
  .intro j hj;refine⟨?_,λ_=>rfl⟩;rw[hall j (by rw[<-hq.len];exact hj)];simp[hj]
 induction fuel with
 | zero=>
  intro listed a w blk hs hdown hr hcount
  have hnil:Region.ready md ops listed=[]:=by
   rw[zay,zce]at hcount;unfold Region.ready;rw[zce];intro j hj;have:=hcount j hj;simp only[zbb,zei]at this;simp[this]
  exact⟨hnil,done listed a w blk hs hr hnil⟩
 | succ fuel ih=>
  intro listed a w blk hs hdown hr hcount;refine⟨λhnil=>done listed a w blk hs hr hnil,λi hi=>?_⟩;unfold Region.ready at hi;rw[zbE]at hi;obtain⟨hi1,hi2⟩:=hi;have hio:=zaN.1 hi1;have ho:=zaL hio;revert ho;generalize ops[i]=o;intro ho;rw[ho]at hi2;simp only[zaT,zbc,zad,zbb,zca,zbr]at hi2;obtain⟨hnl,haft⟩:=hi2
  have hnl2:listed.getD i false=false:=by
   rw[zan,zaL (by omega)]at hnl|-;simpa using hnl
  obtain⟨x,hx,hcx⟩:=hget i o (by rw[zcn];exact ho);obtain⟨l,hl⟩:=zcP.1 (hq.rd i x hx)
  -- the temporaries that it looks at hold what they hold in the text's order
  have hagree:∀t,t∈l->(stE s is r (λq=>decide (q<i))).env t=(stE s is r (λj=>listed.getD j false)).env t:=by
   intro t ht
   have :∀j,j<is.length->(is[j]?).bind (·.d)=some t->decide (j<i)=listed.getD j false:=by
    intro j hj hjt;have hxj:=zab hj;revert hxj;generalize is[j]=y;intro hxj;rw[hxj]at hjt;simp only[zcg]at hjt;have hrd:x.rd=l:=by simp[Ins.rd,hl]
    rcases zcH j i with e|e|e
    .simp only[e,decide_true];rcases hq.pair j i y x o e hxj hx ho with e1|e1
     .unfold yx5 at e1;rw[zee]at e1;obtain⟨ed,hed,e2⟩:=e1;simp only[zad,beq_iff_eq]at e2;rcases haft ed hed with e3|e3
      .rw[yw5 e2.2]at e3;cases e3
      .rw[<-e2.1];exact e3.symm
     .simp only[indep,hjt,hrd,zad]at e1;have:=e1.1;simp only[zbb,zdm,decide_eq_false_iff_not]at this;exact absurd ht this
    .subst e;simp[hnl2]
    .simp only[show¬j<i from by omega,decide_false];have hjo:=zab hj;have hoj:=zaL (show j<ops.size by rw[<-hq.len];exact hj);cases hlj:listed.getD j false with
     |false=>rfl
     | true=>
      exfalso;rcases hq.pair i j x y _ e hx hxj hoj with e1|e1
      .unfold yx5 at e1;rw[zee]at e1;obtain⟨ed,hed,e2⟩:=e1;simp only[zad,beq_iff_eq]at e2
       have hlj2:listed.getD j true=true:=by
        have hjs:j<listed.size:=by rw[hs,<-hq.len];exact hj
        rw[zan,zaL hjs]at hlj|-;simpa using hlj
       have:=hdown j _ hoj hlj2 ed hed e2.2;rw[e2.1,hnl2]at this;cases this
      .simp only[indep,hjt,hrd,zad]at e1;have:=e1.2;simp only[zbb,zdm,decide_eq_false_iff_not]at this;exact absurd ht this
   simp only[stE]
   have:∀L:List Nat,(∀j∈L,j<is.length)->L.find? (λq=>decide (q<i)&&(is[q]?).bind (·.d)==some t)=L.find? (λq=>listed.getD q false&&(is[q]?).bind (·.d)==some t):=by
    intro L
    induction L with
    |nil=>intro _;rfl
    | cons j L ihL=>
     intro hL;simp only[zdN]
     have e:(decide (j<i)&&(is[j]?).bind (·.d)==some t)=(listed.getD j false&&(is[j]?).bind (·.d)==some t):=by
      by_cases e2:(is[j]?).bind (·.d)=some t
      .rw[this j (hL j (by simp)) e2]
      .rw[show((is[j]?).bind (·.d)==some t)=false from beq_eq_false_iff_ne.2 e2,zbk,zbk]
     rw[e,ihL (λq hq=>hL q (by simp[hq]))]
   rw[this _ (λj hj=>zaN.1 hj)]
  have hv:∀k':AV->Prop,k' (r i)->ygj P x (stE s is r (λj=>listed.getD j false)).ev (stE s is r (λj=>listed.getD j false)).yRU k':=by
   intro k' hk';have:=hdet i x hx k' hk';exact(yCg (ev:=(stE s is r (λq=>decide (q<i))).ev) (ev':=(stE s is r (λj=>listed.getD j false)).ev) hl (λ_=>rfl) (λt ht=>hagree t ht)).mp this
  have hdist:∀(j:Nat) (y:Ins),is[j]?=some y->j≠i->y.d.isNone=true\/y.d≠x.d:=by
   intro j y hy hji;rcases zbY hji with e|e
   .exact hq.dist j i y x e hy hx
   .rcases hq.dist i j x y e hx hy with e2|e2
    .have:x.d=none:=by simpa using e2
     rw[this];cases hxd:y.d with
     |none=>exact .inl rfl
     |some _=>exact .inr (by simp)
    .exact .inr (Ne.symm e2)
  have hnext:∀j,(listed.setIfInBounds i true).getD j false=(listed.getD j false||j==i):=by
   intro j;rw[zan,zbt]
   by_cases e:i=j
   .subst e;simp[hs,hio]
   .have e2:(j==i)=false:=by simpa using Ne.symm e
    rw[if_neg e,<-zan,e2,zed]
  have hnext2:∀j,j≠i->(listed.setIfInBounds i true).getD j true=listed.getD j true:=by
   intro j e;rw[zan,zbt,if_neg (Ne.symm e),<-zan]
  have cont:∀a' w' blk',Repr g ((stE s is r (λj=>listed.getD j false)).put x.d (r i)) a' w' blk'->wpAny P md ops Q fuel (listed.setIfInBounds i true) a' w':=by
   intro a' w' blk' hr';refine ih (listed.setIfInBounds i true) a' w' blk' (by simpa using hs) ?_ ?_ ?_
   .intro j o' hj hlj e he hb;rw[hnext]
    by_cases e1:j=i
    .subst e1;rw[ho]at hj;cases hj;rcases haft e he with e3|e3
     .rw[yw5 hb]at e3;cases e3
     .rw[e3];rfl
    .rw[hnext2 j e1]at hlj;rw[hdown j o' hj hlj e he hb];rfl
   .have e1:stE s is r (λj=>(listed.setIfInBounds i true).getD j false)=stE s is r (λj=>listed.getD j false||j==i):=ygC λj _=>⟨hnext j,λ_=>rfl⟩;rw[e1,yDi hx hnl2 hdist];exact hr'
   .have :((List.range ops.size).filter λj=>!listed.getD j true).length=((List.range ops.size).filter λj=>!(listed.setIfInBounds i true).getD j true).length+1:=by
     have hcnt : ∀ L : List Nat,L.Nodup->i∈L->(L.filter λj=>!listed.getD j true).length=(L.filter λj=>!(listed.setIfInBounds i true).getD j true).length+1:=by
      intro L hnd hmem
      induction L with
      |nil=>cases hmem
      | cons q L ihL=>
       rw[zcC]at hnd
       have hset:(listed.setIfInBounds i true).getD i true=true:=by
        rw[zan,zbt,if_pos rfl];simp[hs,hio]
       by_cases e:q=i
       .subst e
        have same:(L.filter λj=>!listed.getD j true)=(L.filter λj=>!(listed.setIfInBounds q true).getD j true):=by
         apply zda;intro j hj;have:j≠q:=λe=>hnd.1 (e▸hj);rw[hnext2 j this]
        rw[zdj,zdj,hnl,hset,same];simp
       .have:=ihL hnd.2 (by rcases zax.1 hmem with e1|e1;·exact absurd e1.symm e
                            .exact e1)
        rw[zdj,zdj,hnext2 q e];split
        .rw[zar,zar,this]
        .exact this
     exact hcnt _ zcL hi1
    omega
  unfold wpOp;rw[ho];rcases ytS (ops:=ops) hN hr hcx hl hv with⟨e,hok⟩|⟨e,hrr⟩
  .simp only[e,if_true];exact .inl (hok.wp λs' blk' a' w' hs' hr'=>cont a' w' blk' (by rw[hs']at hr';exact hr'))
  .simp only[e];exact cont _ _ _ hrr
def ytH(hN:g.N=N){id:Nat}{is:List Ins}{K:St->Prop}{Q:Exit->Act->World->Prop}(hc:yC3 P N ops=some is)(h:Repr g s a w blk)(hw:wpQ P is s K)
 (hQ:∀s' a' w' blk',K s'->Repr g s' a' w' blk'->Q .normal a' w'):(Code.region id ops true).wp P Q a w:=by
 unfold yC3 at hc;split at hc
 .rename_i is' hci;split at hc
  .rename_i hif;cases hc;rw[zad]at hif;have hlen:=(ycA hci).1;have hq:=yCy (by rw[hlen];simp) hif.1;have h1:Repr g s a {w with drawn:=w.drawn+1} blk:=h.drew;obtain⟨r,hK,hdet⟩:=yAP hN hci hq h1 hw;refine wp_region_draw λt=>?_
   have base:∀(md:Region.Mode) (rk:Nat->Nat) (t:Nat),yxM md ops rk->wpOps P ops Q (Region.linearise md ops t) a {w with drawn:=w.drawn+1}:=by
    intro md rk t hrk;refine wpAny_sound ops.size t _ a _ (yE0 hrk hN hci hq hdet (λa' w' blk' hr=>hQ _ a' w' blk' hK hr) ops.size (Array.replicate ops.size false) a _ blk (by simp) ?_ ?_ ?_)
    .intro j o hj hl;exfalso;have hlt:j<ops.size:=(zaJ.1 hj).1;rw[zan]at hl;simp[hlt]at hl
    .have e:stE s is r (λj=>(Array.replicate ops.size false).getD j false)=stE s is r (λj=>decide (j<0)):=ygC λj _=>⟨by
      rw[zan,zdE];split<;>simp,λhj=>by
      exfalso;revert hj;rw[zan,zdE];split<;>simp⟩
     rw[e,yum];exact h1
    .have:((List.range ops.size).filter λj=>!(Array.replicate ops.size false).getD j true)=List.range ops.size:=by
      rw[zcN];intro j hj;have hlt:=zaN.1 hj;rw[zan];simp[hlt]
     rw[this,zcY]
   unfold Region.schedule;split
   .exact base .any (λj=>j) t (yBs hq)
   .rename_i hn
    have hd:yt3 ops=true:=by
     have:=hif.2;simp only[zbr,zbb]at this hn;rcases this with h1|h1
     .exact absurd h1 (by simpa using hn)
     .exact h1
    unfold yt3 at hd;rw[zad]at hd;split
    .exact base .text (λj=>j) _ (yxq hd.1)
    .exact base .gc _ _ (yxq hd.2)
  .cases hc
 .cases hc
end
end Go.Proofs.YtdadkiofenhnbaaGreat
