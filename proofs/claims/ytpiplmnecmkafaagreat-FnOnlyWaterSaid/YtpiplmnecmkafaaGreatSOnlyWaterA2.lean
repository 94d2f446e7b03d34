/- What the law FnOnlyWater stands on: the machine, in short form (names, layout). -/
import Derived.Test.YtpiplmnecmkafaaGreatSOnlyWaterA1
import Derived.Laws.BytesString
import Derived.Orders
set_option linter.all false
namespace Go.Proofs.YtpiplmnecmkafaaGreat
open Go.RowKit
section
variable {P:Program} {g:Ghost} {o:Oper} {s:St} {a:Act} {w:World} {blk:Lay} {K:St->Prop}
theorem bU(e:TypeId)(cells:Array Value)(w:World):(newRow e cells).run P w=.ok ⟨w.heap.size,0,none⟩ (w.alloc (.cells cells e)):=by
 simp[newRow]
theorem yar(h:Repr g s a w blk)(hd:∀i,o.dst=some i->i<g.N){o':Obj}{V:Nat->AV}{v:Value}{arr:Array Value}{e:TypeId}{w1:World}
 (hr:(execOp a.eval o).run P w1=.ok (.value v) (w.alloc (.cells arr e)))
 (ok:∀w' G' O' blk',Keeps w w' (Good g s.objs blk w) G' s.objs O' blk blk'->w'.heap[w.heap.size]?=some (.cells arr e (0,0))->jL w' G' O' blk' noF (some w.heap.size) o')
 (hv:∀(d:Nat) G' (O':Nat->Obj) (blk':Nat->Option Nat),O' d=o'->blk' d=some w.heap.size->(w.alloc (.cells arr e)).heap[w.heap.size]?=some (.cells arr e (0,0))->RV (w.alloc (.cells arr e)) G' O' blk' v (V d))
 (hK:newP s o.dst o' V K):kC P g o a w1 K:=by
 unfold newP at hK;split at hK
 ·rename_i d hdst;obtain⟨h0,hK⟩:=hK;have:=h.alloc (d:=d) (kR h0) ok;refine⟨_,_,hr,_,blk.upd d (some w.heap.size) noF,hK,?_⟩;have hput:=this.put (d:=some d) (v:=v) (x:=V d) (by rw[<-hdst];exact hd) (hv d _ _ _ (by simp[upd]) (by rw[Lay.xE,if_pos rfl]) (heap_alloc_new w _));rw[hdst];exact hput
 ·exact hK.elim
theorem yyI(h:Repr g s a w blk)(hd:∀i,o.dst=some i->i<g.N){t:TypeId}{n:Nat}{p:Operand}{xp:X}(ho:o.op=.box t p)
 (hp:cx p=some xp) (hK:yqE n s o.dst (s.ev xp) K):kC P g o a w K:=by
 have ep:=h.ev hp;obtain⟨_,hok,hK⟩:=hK;obtain⟨h1,h2⟩:=ya2 ep hok;refine yar (v:=.pointer (some ⟨w.heap.size,0,none⟩)) (arr:=(a.eval p).cells) (e:=t) h hd ?_ ?_ ?_ hK
 ·simp[execOp,ho,Instr.box,newVar,bU]
 ·intro w' G' O' blk' KK hh;exact⟨_,_,_,rfl,hh,h1,λj x hx=>let⟨u,hu,hr⟩:=h2 j x hx;⟨u,by simpa using hu,hr.keep KK⟩⟩
 ·intro d G' O' blk' hO hb _;exact⟨_,_,hO,hb,rfl⟩
theorem ybc:∀{l:List Value} {ks:List Nat} {zs:List AV},tV l ks=some zs->zs.length=l.length/\∀(j:Nat) (x:AV),zs[j]?=some x->∃v k,l[j]?=some v/\yd1 k v=some x
 |[],[],cs,h=>by cases h;exact⟨rfl,λj c hj=>by simp at hj⟩
 | x::l,k::ks,cs,h=>by
  simp only[tV]at h;split at h
  ·rename_i c1 cs1 h1 h2;cases h;obtain⟨hl,hg⟩:=ybc h2;refine⟨by simp[hl],λj c hj=>?_⟩;cases j with
   |zero=>simp at hj;subst hj;exact⟨x,k,rfl,h1⟩
   |succ j=>exact hg j c (by simpa using hj)
  ·cases h
 |[],_::_,cs,h=>by simp[tV]at h
 |_::_,[],cs,h=>by simp[tV]at h
theorem yns{G:Nat->Prop}{O:Nat->Obj}{bl:Nat->Option Nat}{v:Value}{x:AV}(h:ycB v=some x):RV1 w G O bl v x:=by
 unfold ycB at h;split at h
 ·split at h
  ·cases h;exact Rd.i ‹_›
  ·cases h
 ·split at h
  ·rename_i n hn;cases h
   show Rd _ _ _ _
   have:(Value.int .u8 n)=.int .u8 (n.toNat:Int):=by congr;omega
   rw[this];exact .u (by omega)
  ·cases h
 ·cases h;exact Rd.b
 ·split at h
  ·cases h;exact Rd.s ‹_›
  ·cases h
 ·cases h;exact rfl
 ·cases h;trivial
 ·cases h
theorem yeq{G:Nat->Prop}{O:Nat->Obj}{bl:Nat->Option Nat}{k:Nat}{v:Value}{x:AV}(h:yd1 k v=some x):RV1 w G O bl v x:=by
 unfold yd1 at h;split at h
 ·cases h;exact rfl
 ·exact yns h
theorem ysv(h:Repr g s a w blk)(hd:∀i,o.dst=some i->i<g.N){t:TypeId}{i:TypeInfo}{z:Value}{zs:List AV}(ho:o.op=.alloc t)(hi:P.info? t=some i)(hz:i.zero=some z)
 {ks:List Nat} (hzs:tV z.cells.toList ks=some zs) (hK:newP s o.dst (.box zs) (λd=>.box d 0) K):kC P g o a w K:=by
 obtain⟨h1,h2⟩:=ybc hzs;refine yar (v:=.pointer (some ⟨w.heap.size,0,none⟩)) (arr:=z.cells) (e:=t) h hd ?_ ?_ ?_ hK
 ·simp[execOp,ho,Instr.alloc,zeroValue,typeInfo,hi,hz,newVar,bU]
 ·intro w' G' O' blk' KK hh;exact⟨_,_,_,rfl,hh,by simpa using h1.symm,λj x hx=>let⟨u,k,hu,hr⟩:=h2 j x hx;⟨u,by simpa using hu,yeq hr⟩⟩
 ·intro d G' O' blk' hO hb _;exact⟨_,_,hO,hb,rfl⟩
theorem yeA{G:Nat->Prop}{v:Value}{c:C}(h:yaw v c=true):Rd w G v c:=by
 unfold yaw at h;split at h
 ·simp at h;obtain⟨rfl,rfl⟩:=h;exact .i ⟨by omega,by omega⟩
 ·simp at h;obtain⟨rfl,rfl⟩:=h;exact Rd.u (n:=0) (by decide)
 ·simp at h;subst h;exact .b
 ·simp at h;obtain⟨rfl,rfl⟩:=h;exact .s (by simp)
 ·simp at h;subst h;exact .sl (λ_ _=>default) rfl (Nat.le_refl _) (by unfold maxLen;omega) (by simp) (by simp) (by simp) (by simp)
 ·cases h
theorem yad:∀{l:List Value} {cs:List C},yap l cs=true->cs.length=l.length/\∀(j:Nat) (c:C),cs[j]?=some c->∃v,l[j]?=some v/\yaw v c=true
 |[],[],h=>⟨rfl,λj c hj=>by simp at hj⟩
 |x::l,c::cs,h=>by
  simp only[yap,zad]at h;obtain⟨hl,hg⟩:=yad h.2;refine⟨by simp[hl],λj c hj=>?_⟩;cases j with
  |zero=>simp at hj;subst hj;exact⟨x,rfl,h.1⟩
  |succ j=>exact hg j c (by simpa using hj)
theorem yrY{v:Value}{k:Nat}{c:C}(h:ytE v k=some c):yaw v c=true:=by
 unfold ytE at h;split at h
 ·split at h
  ·rename_i e;cases h;simp[yaw,e]
  ·cases h
 ·split at h
  ·rename_i e;cases h;simp[yaw,e]
  ·cases h
 ·split at h
  ·cases h
  ·rename_i b e;cases h;simp at e;simp[yaw,e]
 ·split at h
  ·rename_i e;cases h;simp[yaw,e]
  ·cases h
 ·cases h;rfl
 ·cases h
theorem yeJ:∀{l:List Value} {ks:List Nat} {cs:List C},ye2 l ks=some cs->yap l cs=true
 |[],[],cs,h=>by cases h;rfl
 | v::l,k::ks,cs,h=>by
  simp only[ye2]at h;split at h
  ·rename_i c1 cs1 h1 h2;cases h;simp[yap,yrY h1,yeJ h2]
  ·cases h
theorem flat_get{α:Type}{k n:Nat}{z:List α}(hz:z.length=k){i j:Nat}{c:α}(hi:i<n)(hj:z[j]?=some c):(List.replicate n z).flatten[i*k+j]?=some c:=by
 induction n generalizing i with
 |zero=>omega
 | succ n ih=>
  rw[zbn,zbP];have hjk:j<k:=by rw[<-hz];exact(zab.1 hj).1
  cases i with
  |zero=>rw[Nat.zero_mul,zaR,zat (by omega)];exact hj
  |succ i=>
   rw[zan (by rw[hz,zaz];omega),hz,zaz,zaW];rw[show i*k+k+j-k=i*k+j from by omega];exact ih (by omega)
theorem yqM(h:Repr g s a w blk)(hd:∀i,o.dst=some i->i<g.N){t:TypeId}{i:TypeInfo}{z:Value}{k n:Nat}{cs:List C}(ho:o.op=.alloc t)(hi:P.info? t=some i)(hz:i.zero=some z)
 (hzs:yap z.cells.toList (List.replicate n cs).flatten=true) (hk:cs.length=k) (hK:newP s o.dst (.row k (List.replicate n cs)) (λd=>.row d k 0 0) K):kC P g o a w K:=by
 obtain⟨h1,h2⟩:=yad hzs;refine yar (v:=.pointer (some ⟨w.heap.size,0,none⟩)) (arr:=z.cells) (e:=t) h hd ?_ ?_ ?_ hK
 ·simp[execOp,ho,Instr.alloc,zeroValue,typeInfo,hi,hz,newVar,bU]
 ·intro w' G' O' blk' KK hh;refine .inr ⟨_,_,_,rfl,hh,?_,λr hr=>by rw[(zbq.1 hr).2];exact hk,λi2 r j c hr hc=>?_⟩
  ·have:(List.replicate n cs).flatten.length=n*k:=by simp[hk]
   rw[zbo];rw[this,zbV]at h1;omega
  ·have hi2:i2<n:=by have:=(zab.1 hr).1;simpa using this
   rw[zbl,if_pos hi2]at hr;cases hr;obtain⟨u,hu,hr⟩:=h2 _ c (flat_get hk hi2 hc);exact⟨u,by simpa using hu,yeA hr⟩
 ·intro d G' O' blk' hO hb _;exact⟨_,_,by rw[hO];rfl,hb,by simp⟩
theorem ycW{z:Array Value}{k n:Nat}(hz:z.size=k){i j:Nat}(hi:i<n)(hj:j<k):(madeCells z (n*k))[i*k+j]?=z[j]?:=by
 have h1:(i+1)*k<=n*k:=zaj _ hi;rw[zaz,zaW]at h1;have h2:(i*k+j)%k=j:=by rw[Nat.add_comm,Nat.add_mul_mod_self_right,zcE hj]
 unfold madeCells;simp[hz,h2,show i*k+j<n*k from by omega,getElem!_pos,hj]
theorem ywA(h:Repr g s a w blk)(hd:∀i,o.dst=some i->i<g.N){t e:TypeId}{i:TypeInfo}{z:Value}{cs:List C}{p q:Operand}{xp xq:X}(ho:o.op=.makeSlice t p q)(ht:P.underlying t=some (.slice e))(hi:P.info? e=some i)(hz:i.zero=some z)
 (hzs:yap z.cells.toList cs=true) (hsz:z.cells.size=i.size) (hp:cx p=some xp) (hq:cx q=some xq) (hK:yjS i.size i.bytes cs s o.dst (s.ev xp) (s.ev xq) K):kC P g o a w K:=by
 have ep:=h.ev hp;have eq:=h.ev hq;revert hK ep eq;generalize s.ev xp=vp;generalize s.ev xq=vq;intro hK ep eq;unfold yjS at hK;split at hK
 ·rename_i n m;obtain⟨h0,h1,h2,hK⟩:=hK;obtain⟨e1,_⟩:=ep.int;obtain⟨e2,i2⟩:=eq.int;have hm:m<=9223372036854775807:=i2.2;have hr:=run_make (P:=P) w t e i z ht hi hz .i64 .i64 n m h0 h1 h2 hm;obtain⟨z1,z2⟩:=yad hzs;have z3:cs.length=i.size:=by rw[z1,zbV,hsz]
  rcases hK with hK|hK
  case inr=>
   split at hK
   case h_2=>exact hK.elim
   rename_i k0;refine yar h hd (v:=.slice (some ⟨w.heap.size,0,none⟩) n.toNat m.toNat) (arr:=madeCells z.cells (m.toNat*i.size)) (e:=e) (by simp[execOp,ho,e1,e2,hr]) ?_ ?_ hK
   ·intro w' G' O' blk' KK hh;refine .inr ⟨_,_,_,rfl,hh,?_,λr hr=>by rw[(zbq.1 hr).2];exact z3,λ_ _=>.slice none 0 0,λ_ _=>noF,λ_ _ _ h=>h.elim,λ_ _ _ _ _ h=>h.elim,λi2 r hr j c hc=>?_,λi2 r hr j c hc=>?_⟩
    ·rw[size_madeCells,zbo];exact zaj _ (by omega)
    ·have hi2:i2<n.toNat:=by have:=(zab.1 hr).1;simpa using this
     have hj:j<1:=by
      rw[zbl,if_pos hi2]at hr;cases hr;exact(zab.1 hc).1
     have hj0:j=0:=by omega
     subst hj0;obtain⟨u,hu,hru⟩:=z2 0 _ rfl
     have hu0:u=.slice none 0 0:=by
      unfold yaw at hru;split at hru<;>first|rfl|cases hru|(simp at *;done)|contradiction
     subst hu0;rw[ycW hsz (by omega) (by rw[<-z3];exact hj)];simpa using hu
    ·have hi2:i2<n.toNat:=by have:=(zab.1 hr).1;simpa using this
     rw[zbl,if_pos hi2]at hr;cases hr;have hj:j<1:=(zab.1 hc).1;have hj0:j=0:=by omega
     subst hj0;cases hc;exact .ow0
   ·intro d G' O' blk' hO hb hh;exact⟨_,by rw[hO];rfl,by simp,.inr ⟨_,_,_,_,hb,rfl,by omega,by unfold maxLen;omega,hh,by rw[size_madeCells];exact Nat.le_refl _⟩⟩
  refine yar h hd (v:=.slice (some ⟨w.heap.size,0,none⟩) n.toNat m.toNat) (arr:=madeCells z.cells (m.toNat*i.size)) (e:=e) (by simp[execOp,ho,e1,e2,hr]) ?_ ?_ hK
  ·intro w' G' O' blk' KK hh;refine .inr ⟨_,_,_,rfl,hh,?_,λr hr=>by rw[(zbq.1 hr).2];exact z3,λi2 r j c hr hc=>?_⟩
   ·rw[size_madeCells,zbo];exact zaj _ (by omega)
   ·have hi2:i2<n.toNat:=by have:=(zab.1 hr).1;simpa using this
    rw[zbl,if_pos hi2]at hr;cases hr;obtain⟨u,hu,hru⟩:=z2 j c hc;have hj:j<i.size:=by rw[<-z3];exact(zab.1 hc).1
    exact⟨u,by rw[ycW hsz (by omega) hj];simpa using hu,yeA hru⟩
  ·intro d G' O' blk' hO hb hh;exact⟨_,by rw[hO];rfl,by simp,.inr ⟨_,_,_,_,hb,rfl,by omega,by unfold maxLen;omega,hh,by rw[size_madeCells];exact Nat.le_refl _⟩⟩
 ·exact hK.elim
theorem yvt(h:Repr g s a w blk)(hd:∀i,o.dst=some i->i<g.N){f:Int->Int->Int}{op:Value->Value->Sem Value}{l:List Operand}{xs:List X}(hop:∀m n,op (.int .i64 m) (.int .i64 n)=pure (.int .i64 (f m n)))
 (hin:∀m n,inI m->inI n->inI (f m n))
 (hr:∀v vs,l.map a.eval=v::vs->∀r,(vs.foldlM op v).run P w=.ok r w->(execOp a.eval o).run P w=.ok (.value r) w)
 (hx:cxs l=some xs) (hK:mmP f (xs.map s.ev) λv=>K (s.put o.dst v)):kC P g o a w K:=by
 obtain⟨hl,hg⟩:=h.evs hx;revert hK hl hg;generalize xs.map s.ev=avs;generalize hvs:l.map a.eval=vs;intro hK hl hg
 have key:∀(avs:List AV) (ns:List Int),intsOf avs=some ns->∀vs:List Value,vs.length=avs.length->(∀(j:Nat) (x:AV),avs[j]?=some x->∃u,vs[j]?=some u/\RVs g s w blk u x)->
  vs=ns.map (λn=>Value.int .i64 n)/\∀n∈ns,inI n:=by
  intro avs
  induction avs with
  |nil=>intro ns hns vs hl _;cases hns;exact⟨by simpa using hl,by simp⟩
  | cons x avs ih=>
   intro ns hns vs hl hg;cases vs with
   |nil=>simp at hl
   | cons v vs=>
    obtain⟨u,hu,hru⟩:=hg 0 x rfl;simp only[zbr,Option.some.injEq]at hu;subst hu;cases x with
    | c y=>cases y with
     |i n=>
      simp only[intsOf,zak]at hns;obtain⟨ns',h1,rfl⟩:=hns;obtain⟨h2,h3⟩:=ih ns' h1 vs (by simpa using hl) (λj x hj=>by simpa using hg (j+1) x (by simpa using hj));obtain⟨e,hb⟩:=hru.int;exact⟨by rw[e,h2];rfl,by simpa using⟨hb,h3⟩⟩
     |_=>simp[intsOf]at hns
    |_=>simp[intsOf]at hns
 unfold mmP at hK;split at hK
 ·rename_i n r hns;obtain⟨hvs',hb⟩:=key _ _ hns vs hl hg
  have fold:∀(r:List Int) (n:Int),inI n->(∀m∈r,inI m)->((r.map (λn=>Value.int .i64 n)).foldlM op (.int .i64 n)).run P w=.ok (.int .i64 (r.foldl f n)) w/\inI (r.foldl f n):=by
   intro r
   induction r with
   |nil=>intro n hn _;exact⟨rfl,hn⟩
   |cons m r ih=>
    intro n hn hr;have:=ih (f n m) (hin n m hn (hr m (by simp))) (λq hq=>hr q (by simp[hq]));simp only[zaD,List.foldlM_cons,hop,zcc,pure_bind];exact this
  have:=fold r n (hb n (by simp)) (λm hm=>hb m (by simp[hm]));exact kC.val h hd (hr _ _ (by rw[hvs,hvs'];rfl) _ this.1) (.mkI this.2) hK
 ·exact hK.elim
theorem mn_ok(h:Repr g s a w blk)(hd:∀i,o.dst=some i->i<g.N){l:Array Operand}{ts:Array TypeId}{xs:List X}(ho:o.op=.call {callee:=.builtin .min,args:=l,argTypes:=ts})
 (hx:cxs l.toList=some xs) (hK:mmP (λx y=>if y<x then y else x) (xs.map s.ev) λv=>K (s.put o.dst v)):kC P g o a w K:=by
 refine yvt h hd (op:=Builtin.min2) (λm n=>rfl) (λm n hm hn=>by split<;>assumption) (λv vs hv r hr=>?_) hx hK;simp[execOp,ho,resolve,invoke,builtin,Builtin.min_,hv,hr]
theorem mx_ok(h:Repr g s a w blk)(hd:∀i,o.dst=some i->i<g.N){l:Array Operand}{ts:Array TypeId}{xs:List X}(ho:o.op=.call {callee:=.builtin .max,args:=l,argTypes:=ts})
 (hx:cxs l.toList=some xs) (hK:mmP (λx y=>if x<y then y else x) (xs.map s.ev) λv=>K (s.put o.dst v)):kC P g o a w K:=by
 refine yvt h hd (op:=Builtin.max2) (λm n=>rfl) (λm n hm hn=>by split<;>assumption) (λv vs hv r hr=>?_) hx hK;simp[execOp,ho,resolve,invoke,builtin,Builtin.max_,hv,hr]
theorem yen{f:Nat}{fn:Func}(hf:P.funcs[f]?=some fn)(hb:fn.body.isSome=true)(hn:(fn.name != "runtime.NumGoroutine")=true)(args:Array Value)(w:World):
 (callFunc f args).run P w=.ok (.enter f args) w:=by
 have h1:fn.name≠ "runtime.NumGoroutine":=by simpa using hn
 have h2:fn.body≠none:=by intro e;simp[e]at hb
 simp[callFunc,hf,h1,h2]
theorem yuo(h:Repr g s a w blk)(hd:∀i,o.dst=some i->i<g.N){f:Nat}{fn:Func}{l:Array Operand}{ts:Array TypeId}{xs:List X}(ho:o.op=.call {callee:=.value (.func f),args:=l,argTypes:=ts})
 (hf:P.funcs[f]?=some fn) (hb:fn.body.isSome=true) (hn:(fn.name != "runtime.NumGoroutine")=true)
 (hx:yo3 P ts.toList l.toList=some xs\/cxs l.toList=some xs) (hK:gW P f (xs.map s.ev) o.dst s K):kC P g o a w K:=by
 obtain⟨hl,hg⟩:(l.toList.map a.eval).length=(xs.map s.ev).length/\∀(j:Nat) (x:AV),(xs.map s.ev)[j]?=some x->∃u,(l.toList.map a.eval)[j]?=some u/\RVs g s w blk u x:=by
  rcases hx with hx|hx
  ·exact h.evts hx
  ·exact h.evs hx
 have:=hK g a w blk h hd (l.map a.eval) (by simpa using hl) (λj x hj=>by
  obtain⟨u,hu,hr⟩:=hg j x hj;exact⟨u,by simpa using hu,hr⟩)
 refine⟨.enter f (l.map a.eval),w,?_,this⟩;have e1:a.eval (.func f)=.func (.func f) #[] #[]:=rfl;simp[execOp,ho,resolve,Deferred.ofValue,e1,invoke,yen hf hb hn]
theorem yrM(h:Repr g s a w blk)(hd:∀i,o.dst=some i->i<g.N){q:Operand}{xq:X}{l:Array Operand}{ts:Array TypeId}{xs:List X}(ho:o.op=.call {callee:=.value q,args:=l,argTypes:=ts})
 (hq:cx q=some xq) (hx:cxs l.toList=some xs) (hK:yb1 P (s.ev xq) (xs.map s.ev) o.dst s K):kC P g o a w K:=by
 obtain⟨hl,hg⟩:=h.evs hx;have eq:=h.ev hq;unfold yb1 at hK;split at hK
 ·rename_i f cs he;rw[he]at eq;obtain⟨⟨fn,hf,hb,hn⟩,hK⟩:=hK;obtain⟨arr,hfv,hs,hc⟩:=eq
  have:=hK g a w blk h hd (l.map a.eval++arr) (by simp at hl;simp[hs,hl]) (λj x hj=>by
   by_cases hlt:j<(xs.map s.ev).length
   ·rw[zat hlt]at hj;obtain⟨u,hu,hr⟩:=hg j x hj;refine⟨u,?_,hr⟩;rw[zaS (by simp at hl hlt|-;omega)];simpa using hu
   ·rw[zan (by omega)]at hj;obtain⟨u,hu,hr⟩:=hc _ x hj;refine⟨u,?_,RVs.of1 hr⟩;rw[Array.getElem?_append_right (by simp at hl hlt|-;omega)];rw[<-hu];congr 1;simp at hl|-;omega)
  refine⟨.enter f (l.map a.eval++arr),w,?_,this⟩;simp[execOp,ho,resolve,Deferred.ofValue,hfv,invoke,yen hf hb hn]
 ·exact hK.elim
theorem yp7:∀{l:List (Int×Int)} {j i:Nat} {p:Int×Int},l[i]?=some p->(mpL j l)[i]?=some ⟨.int .i64 p.1,.int .i64 p.2,j+i⟩
 |[],j,i,p,h=>by simp at h
 |q::l,j,0,p,h=>by simp at h;subst h;rfl
 |q::l,j,i+1,p,h=>by
  have:=yp7 (l:=l) (j:=j+1) (i:=i) (by simpa using h);rw[show j+1+i=j+(i+1) by omega]at this;simpa[mpL]using this
theorem yp4:∀(l:List (Int×Int)) (j:Nat) (p:Int×Int),mpL j (l++[p])=mpL j l++[⟨.int .i64 p.1,.int .i64 p.2,j+l.length⟩]
 |[],_,_=>rfl
 |q::l,j,p=>by
  have:=yp4 l (j+1) p;simp only[zcG,mpL,this,zaC];rw[show j+1+l.length=j+(l.length+1) by omega]
theorem ypM:∀(l:List (Int×Int)) (j i:Nat) (v:Int),mpL j (ybQ l i v)=(mpL j l).modify i λe=>{e with val:=.int .i64 v}
 |[],j,i,v=>by simp[ybQ,mpL]
 |q::l,j,0,v=>by simp[ybQ,mpL]
 |q::l,j,i+1,v=>by
  have:=ypM l (j+1) i v;unfold ybQ at this|-;simp[mpL,this]
theorem yiZ(n:Int):∀(l:List (Int×Int)) (j j0:Nat),Instr.findNow (.int .i64) (.int .i64 n) (mpL j0 l) j=some ((yay n j l).map λp=>(p.1,.int .i64 p.2))
 |[],_,_=>rfl
 | q::l,j,j0=>by
  simp only[mpL,Instr.findNow,Instr.sameNow,if_true,yay]
  by_cases e:n=q.1
  ·subst e;simp
  ·have e2:(n==q.1)=false:=by simpa using e
   simp only[e2,if_neg e];exact yiZ n l (j+1) (j0+1)
theorem yda(n:Int):∀{l:List (Int×Int)} {j:Nat} {p:Nat×Int},yay n j l=some p->j<=p.1/\l[p.1-j]?=some (n,p.2)
 |[],j,p,h=>by cases h
 | q::l,j,p,h=>by
  simp only[yay]at h;split at h
  ·rename_i e;cases h;refine⟨Nat.le_refl _,?_⟩;simp[e]
  ·obtain⟨h1,h2⟩:=yda n h;refine⟨by omega,?_⟩;rw[show p.1-j=(p.1-(j+1))+1 by omega];simpa using h2
theorem Repr.map(h:Repr g s a w blk){id b:Nat}{kvs:List (Int×Int)}(hO:s.ob id=.mp kvs)(hb:blk id=some b):
 w.heap[b]?=some (.map (mpL 0 kvs).toArray kvs.length)/\∀p,p∈kvs->inI p.1/\inI p.2:=by
 have h0:=h.objs id;rw[show s.objs id=_ from hO]at h0;obtain⟨g1,e1,e2,e3⟩:=h0;rw[hb]at e1;cases e1;exact⟨e2,e3⟩
theorem Repr.ytm(h:Repr g s a w blk){id b:Nat}{kvs kvs':List (Int×Int)}(hO:s.ob id=.mp kvs)(hb:blk id=some b)(hin:∀p,p∈kvs'->inI p.1/\inI p.2):
 Repr g (s.jD id (.mp kvs')) a {w with heap:=w.heap.setIfInBounds b (.map (mpL 0 kvs').toArray kvs'.length)} blk:=by
 obtain⟨hm,_⟩:=h.map hO hb;have hO':s.objs id=.mp kvs:=hO;have hlive:s.objs id≠.none:=by rw[hO'];simp
 have hlt:=ykP hm;have hup:∀i,(s.jD id (.mp kvs')).objs i=if i=id then .mp kvs' else s.objs i:=λi=>rfl
 have hoff:Off (λq=>q=b) w {w with heap:=w.heap.setIfInBounds b (.map (mpL 0 kvs').toArray kvs'.length)}:=by
  refine⟨rfl,rfl,rfl,by simp,λk _ hk=>?_,λk arr e hk hc=>?_⟩
  ·show(w.heap.setIfInBounds b _)[k]?=_
   rw[zaL,if_neg (λe=>hk e.symm)]
  ·have hk:k=b:=hk;subst hk;rw[hm]at hc;cases hc
 have key:=(h.yfR [] (λi=>i=id) (objs':=(s.jD id (.mp kvs')).objs) (L':=blk) (X:=λq=>q=b) hoff
  (λq hq=>⟨id,.inl rfl,hlive,.inl (by rw[hq];exact hb)⟩)
  (λi hi=>⟨by rw[hup,if_neg hi];simp[Obj.jM],rfl,rfl⟩)
  (λi b' hi _ hf=>.inl ⟨i,.inl hi,by rw[hi];exact hlive,hf⟩)
  (λi j b' hi hj _ _ _ _=>hi.trans hj.symm)
  (λi b' hi _ hr=>h.apart i b' (by rw[hi];exact hlive) hr)
  (λi hi _ _=>by
   subst hi;rw[hup,if_pos rfl,hO'];exact⟨trivial,rfl⟩)
  (λi k v' rows hi _ hk=>by
   subst hi;rw[hO']at hk;cases hk)
  (λG' K hN hM i hi=>by
   subst hi;rw[hup,if_pos rfl];refine⟨b,hb,?_,hin⟩
   show(w.heap.setIfInBounds b _)[b]?=_
   rw[zaL,if_pos rfl,if_pos hlt])).1
 exact key
theorem Repr.allocMap(h:Repr g s a w blk){d:Nat}(hd:s.ob d=.none):
 Repr g ⟨s.env,upd d (.mp []) s.objs⟩ a (w.alloc (.map #[] 0)) (blk.upd d (some w.heap.size) noF):=by
 have hO:∀i,upd d (.mp []) s.objs i=if i=d then .mp []else s.objs i:=λi=>rfl
 have hd':s.objs d=.none:=hd;have hoff:Off noF w (w.alloc (.map #[] 0)):=(Off.refl noF w).alloc _;refine h.turn [] (λi=>i=d) hoff (λq hq=>hq.elim) (λi hi=>?_) (λi b hi _ hf=>?_) (λi j b hi hj _ _ _ _=>hi.trans hj.symm) (λi b hi _ hr=>?_) (λi hi _ hl=>?_) (λi k v rows hi _ hk=>?_) (λG' K i hi=>?_)
 ·exact⟨by simp[hO,hi,Obj.jM],by rw[Lay.xE,if_neg hi],by rw[Lay.sH,if_neg hi]⟩
 ·subst hi;rw[Lay.yfm,if_pos rfl]at hf;rcases hf with hf|hf
  ·cases hf;exact .inr ⟨Nat.le_refl _,by simp⟩
  ·exact hf.elim
 ·subst hi;rw[Lay.sH,if_pos rfl];exact id
 ·subst hi;exact absurd hd' hl
 ·subst hi;rw[hd']at hk;cases hk
 ·subst hi;rw[hO,if_pos rfl,Lay.sH,if_pos rfl,Lay.xE,if_pos rfl];exact⟨_,rfl,heap_alloc_new w _,λp hp=>by cases hp⟩
theorem yyK(h:Repr g s a w blk)(hd:∀i,o.dst=some i->i<g.N){t:TypeId}(ho:o.op=.makeMap t none)(hK:newP s o.dst (.mp []) (λd=>.mpr d) K):kC P g o a w K:=by
 unfold newP at hK;split at hK
 ·rename_i d hdst;obtain⟨h0,hK⟩:=hK;have:=h.allocMap (d:=d) (kR h0);refine⟨.value (.map (some w.heap.size)),w.alloc (.map #[] 0),?_,_,blk.upd d (some w.heap.size) noF,hK,?_⟩
  ·simp[execOp,ho,Instr.makeMap]
  ·have hput:=this.put (d:=some d) (v:=.map (some w.heap.size)) (x:=.mpr d) (by rw[<-hdst];exact hd) ⟨w.heap.size,[],by simp[upd],by show(blk.upd _ _ _).root d=_;rw[Lay.xE,if_pos rfl],rfl⟩;rw[hdst];exact hput
 ·exact hK.elim
theorem yij{t:TypeId}(h:yfe P t=true):∃k e,P.underlying t=some (.map k e)/\P.underlying k=some (.int .i64)/\∀w:World,(zeroValue e).run P w=.ok (.int .i64 0) w:=by
 unfold yfe at h;split at h
 ·rename_i k e ht;rw[zad]at h;obtain⟨h1,h2⟩:=h;refine⟨k,e,ht,?_,λw=>?_⟩
  ·split at h1
   ·assumption
   ·cases h1
  ·split at h2
   ·rename_i i hi;split at h2
    ·rename_i hz;simp[zeroValue,typeInfo,hi,hz]
    ·cases h2
   ·cases h2
 ·cases h
theorem yw4(h:Repr g s a w blk)(hd:∀i,o.dst=some i->i<g.N){t:TypeId}{p q r:Operand}{xp xq xr:X}(ho:o.op=.mapUpdate t p q r)(ht:yfe P t=true)(hp:cx p=some xp)(hq:cx q=some xq)(hr:cx r=some xr)
 (hK:ynv s (s.ev xp) (s.ev xq) (s.ev xr) λs'=>K (s'.put o.dst .und)):kC P g o a w K:=by
 have ep:=h.ev hp;have eq:=h.ev hq;have er:=h.ev hr;obtain⟨kt,et,ht1,ht2,ht3⟩:=yij ht;unfold ynv at hK;split at hK
 case h_2=>exact hK.elim
 rename_i id n v hx hy hz;rw[hx]at ep;rw[hy]at eq;rw[hz]at er;obtain⟨b,kvs',hO',hb,e1⟩:=ep;obtain⟨e2,hn⟩:=eq.int;obtain⟨e3,hv⟩:=er.int;split at hK
 case h_2=>exact hK.elim
 rename_i kvs hO;obtain⟨hm,hin⟩:=h.map hO hb;have hfind:=MapKept.run_findKey (w:=w) ht2 (yiZ n kvs 0 0);have hchk:=MapKept.run_checkKey (P:=P) (w:=w) (k:=.int .i64 n) ht2 rfl false 9999;cases hf:yay n 0 kvs with
 | some r=>
  obtain⟨j1,j2⟩:=yda n hf;rw[Nat.sub_zero]at j2;have j3:=yp7 (j:=0) j2;rw[zaR]at j3;have hkt:=MapKept.run_keyThatStays (P:=P) (w:=w) (d:=.int .i64) (k:=.int .i64 n) rfl;have he:yiB n v kvs=ybQ kvs r.1 v:=by unfold yiB;rw[hf]
  rw[he]at hK;have hk2:(ybQ kvs r.1 v).length=kvs.length:=by simp[ybQ]
  have hmod:(mpL 0 kvs).modify r.1 (λe=>{e with key:=.int .i64 n,val:=.int .i64 v})=mpL 0 (ybQ kvs r.1 v):=by
   rw[ypM];apply zch;intro i;rw[zck,zck];split
   ·rename_i e;subst e;rw[j3];rfl
   ·rfl
  have hset:=MapKept.run_setObj_map (P:=P) (.map (mpL 0 (ybQ kvs r.1 v)).toArray kvs.length) hm
  have hr2:=h.ytm (kvs':=ybQ kvs r.1 v) hO hb (λp hp=>by
   unfold ybQ at hp;obtain⟨i,hi⟩:=zam hp;rw[zck]at hi;cases hg:kvs[i]? with
   |none=>rw[hg]at hi;split at hi<;>cases hi
   |some q=>
    rw[hg]at hi;have hq:=hin q (zac hg);split at hi
    ·cases hi;exact⟨hq.1,hv⟩
    ·cases hi;exact hq)
  rw[hk2]at hr2;rw[hf]at hfind;simp only[zaB]at hfind;refine⟨.skip,_,?_,_,blk,hK,hr2.put (v:=undef) (x:=.und) hd (show undef=undef from rfl)⟩;simp[execOp,ho,e1,e2,e3,Instr.mapUpdate,run_underlying ht1,MapKept.run_getObj_map hm,hchk,hfind,j3,hkt,hmod,hset,Result.andThen]
 | none=>
  have he:yiB n v kvs=kvs++[(n,v)]:=by unfold yiB;rw[hf]
  rw[he]at hK;rw[hf]at hfind;simp only[Option.map_none]at hfind;have hset:=MapKept.run_setObj_map (P:=P) (.map (mpL 0 (kvs++[(n,v)])).toArray (kvs.length+1)) hm
  have hpush:mpL 0 kvs++[⟨.int .i64 n,.int .i64 v,kvs.length⟩]=mpL 0 (kvs++[(n,v)]):=by
   rw[yp4,zaR]
  have hr2:=h.ytm (kvs':=kvs++[(n,v)]) hO hb (λp hp=>by
   rcases zao.1 hp with h|h
   ·exact hin p h
   ·rw[zal.1 h];exact⟨hn,hv⟩)
  rw[zau]at hr2;refine⟨.skip,_,?_,_,blk,hK,hr2.put (v:=undef) (x:=.und) hd (show undef=undef from rfl)⟩;simp[execOp,ho,e1,e2,e3,Instr.mapUpdate,run_underlying ht1,MapKept.run_getObj_map hm,hchk,hfind,hpush,hset,Result.andThen]
theorem yqp{fn:Func}{n:Nat}(h:yut fn=some n):fn.body.isNone=true∧(fn.name== "runtime.NumGoroutine")=false∧Extern.findNext fn=none∧Extern.find fn=some (if n=0 then Extern.BytealgCount.count else Extern.BytealgIndexByte.indexByte):=by
 unfold yut at h;split at h
 ·rename_i hb;rw[zad,beq_iff_eq]at hb;obtain⟨hb,ho⟩:=hb;split at h
  ·rename_i hn;rw[beq_iff_eq]at hn;cases h;refine⟨hb,by rw[hn];decide,?_,?_⟩
   ·unfold Extern.findNext;rw[hn,ho];kernel_rfl
   ·unfold Extern.find;rw[hn,ho];kernel_rfl
  ·split at h
   ·rename_i hn;rw[beq_iff_eq]at hn;cases h;refine⟨hb,by rw[hn];decide,?_,?_⟩
    ·unfold Extern.findNext;rw[hn,ho];kernel_rfl
    ·unfold Extern.find;rw[hn,ho];kernel_rfl
   ·cases h
 ·cases h
theorem ylZ(l:List UInt8)(c:UInt8):Lib.indexByte l c<=l.length:=by
 induction l with
 |nil=>simp[Lib.indexByte]
 | cons b l ih=>
  unfold Lib.indexByte;split
  ·simp;omega
  ·split
   ·simp;omega
   ·simp only[zaC];omega
theorem yyA(h:Repr g s a w blk)(hd:∀i,o.dst=some i->i<g.N){f n:Nat}{fn:Func}{p q:Operand}{ts:Array TypeId}{xp xq:X}(ho:o.op=.call {callee:=.value (.func f),args:=#[p,q],argTypes:=ts})
 (hf:P.funcs[f]?=some fn) (he:yut fn=some n) (hp:cx p=some xp) (hq:cx q=some xq) (hK:yoW n (s.ev xp) (s.ev xq) λv=>K (s.put o.dst v)):kC P g o a w K:=by
 have ep:=h.ev hp;have eq:=h.ev hq;obtain⟨h1,h2,h3,h4⟩:=yqp he;unfold yoW at hK;split at hK
 case h_2=>exact hK.elim
 rename_i bs c hx hy;rw[hx]at ep;rw[hy]at eq;generalize hvp:a.eval p=vp at ep;generalize hvq:a.eval q=vq at eq;have ep:Rd w (Good g s.objs blk w) vp (.s bs):=ep;have eq:Rd w (Good g s.objs blk w) vq (.u c):=eq;cases ep with
 | s hs=>
  cases eq with
  | u hc=>
   have e1:a.eval (.func f)=.func (.func f) #[] #[]:=rfl;have e2:(c:Int).toNat.toUInt8=c.toUInt8:=rfl;have hlen:bs.data.toList.length=bs.size:=rfl;have r1:Lib.countByte bs.data.toList c.toUInt8<=bs.data.toList.length:=List.count_le_length;have r2:=ylZ bs.data.toList c.toUInt8;have r3:=Lib.indexByte_ge bs.data.toList c.toUInt8;unfold maxLen at hs;refine kC.val h hd (v:=.int .i64 (if n=0 then(Lib.countByte bs.data.toList c.toUInt8:Int)else Lib.indexByte bs.data.toList c.toUInt8)) ?_ (.mkI ?_) hK
   ·by_cases hn:n=0
    ·rw[if_pos hn]at h4;simp[execOp,ho,resolve,Deferred.ofValue,e1,invoke,hvp,hvq,run_callFunc_extern hf h2 h1 h3 h4,Lib.run_countString,Result.andThen,hn]
    ·rw[if_neg hn]at h4;simp[execOp,ho,resolve,Deferred.ofValue,e1,invoke,hvp,hvq,run_callFunc_extern hf h2 h1 h3 h4,Lib.run_indexByteString,Result.andThen,hn]
   ·unfold inI;split<;>omega
theorem yxa(h:Repr g s a w blk)(hd:∀i,o.dst=some i->i<g.N){t:TypeId}{p q:Operand}{xp xq:X}(ho:o.op=.lookup t p q false)(ht:yfe P t=true)(hp:cx p=some xp)(hq:cx q=some xq)
 (hK:ymz s (s.ev xp) (s.ev xq) λv=>K (s.put o.dst v)):kC P g o a w K:=by
 have ep:=h.ev hp;have eq:=h.ev hq;obtain⟨kt,et,ht1,ht2,ht3⟩:=yij ht;unfold ymz at hK;split at hK
 case h_2=>exact hK.elim
 rename_i id n hx hy;rw[hx]at ep;rw[hy]at eq;obtain⟨b,kvs',hO',hb,e1⟩:=ep;obtain⟨e2,hn⟩:=eq.int;split at hK
 case h_2=>exact hK.elim
 rename_i kvs hO;obtain⟨hm,hin⟩:=h.map hO hb;have hfind:=MapKept.run_findKey (w:=w) ht2 (yiZ n kvs 0 0);have hchk:=λem=>MapKept.run_checkKey (P:=P) (w:=w) (k:=.int .i64 n) ht2 rfl em 9999
 have hv:inI (yic n kvs):=by
  unfold yic;cases hr:yay n 0 kvs with
  |none=>simp only;unfold inI;omega
  |some r=>
   obtain⟨j1,j2⟩:=yda n hr;exact(hin _ (zac j2)).2
 refine kC.val h hd (v:=.int .i64 (yic n kvs)) ?_ (RVs.mkI hv) hK;unfold yic;cases hr:yay n 0 kvs with
 |none=>
  rw[hr]at hfind;simp[execOp,ho,e1,e2,Instr.lookup,run_underlying ht1,MapKept.run_getObj_map hm,hchk,hfind,ht3,Result.andThen]
 |some r=>
  rw[hr]at hfind;simp[execOp,ho,e1,e2,Instr.lookup,run_underlying ht1,MapKept.run_getObj_map hm,hchk,hfind,Result.andThen]
end
end Go.Proofs.YtpiplmnecmkafaaGreat
namespace Go.Proofs.YtpiplmnecmkafaaGreat
open Go.RowKit
section
variable {P:Program} {g:Ghost} {o:Oper} {s:St} {a:Act} {w:World} {blk:Lay} {K:St->Prop}
theorem ycT(off:Nat):∀(vs:List Value) (n:Nat) (cs:Array Value),((vs.zipIdx n).foldl (λ(cs:Array Value) (p:Value×Nat)=>cs.setIfInBounds (off+p.2) p.1) cs).size=cs.size/\
 ∀j,off+n+vs.length<=cs.size->((vs.zipIdx n).foldl (λ(cs:Array Value) (p:Value×Nat)=>cs.setIfInBounds (off+p.2) p.1) cs)[j]?=if off+n<=j/\j<off+n+vs.length then vs[j-(off+n)]? else cs[j]?
 |[],n,cs=>⟨rfl,λj _=>by rw[if_neg (by simp)];rfl⟩
 | v::vs,n,cs=>by
  obtain⟨h1,h2⟩:=ycT off vs (n+1) (cs.setIfInBounds (off+n) v);simp only[zcF,zcc];refine⟨by rw[h1];simp,λj hj=>?_⟩;rw[h2 j (by simp at hj|-;omega)];simp only[zaC]at hj|-
  by_cases e1:off+(n+1)<=j/\j<off+(n+1)+vs.length
  ·rw[if_pos e1,if_pos (by omega)];rw[show j-(off+n)=(j-(off+(n+1)))+1 from by omega,zcD]
  ·rw[if_neg e1,zaL]
   by_cases e2:off+n=j
   ·rw[if_pos e2,if_pos (by omega),if_pos (by omega),<-e2,zbX];rfl
   ·rw[if_neg e2,if_neg (by omega)]
theorem yku(off:Nat)(cs cells:Array Value)(h:off+cs.size<=cells.size):
 (cs.zipIdx.foldl (λcs (c,j)=>cs.setIfInBounds (off+j) c) cells).size=cells.size/\
 ∀j:Nat,(cs.zipIdx.foldl (λcs (c,j)=>cs.setIfInBounds (off+j) c) cells)[j]?=if off<=j/\j<off+cs.size then cs[j-off]? else cells[j]?:=by
 have e:cs.zipIdx.foldl (λcs (c,j)=>cs.setIfInBounds (off+j) c) cells=(cs.toList.zipIdx 0).foldl (λ(cs:Array Value) (p:Value×Nat)=>cs.setIfInBounds (off+p.2) p.1) cells:=by
  rw[<-Array.foldl_toList];simp
 obtain⟨h1,h2⟩:=ycT off cs.toList 0 cells;rw[e];refine⟨h1,λj=>?_⟩;rw[h2 j (by simpa using h)];simp
theorem ynC(h:Repr g s a w blk){places:List (Nat×Nat)}:∀(parts:List (Nat×Operand)) (ps:List (Nat×Nat×X)) (l:List AV) (cells:Array Value) (K:List AV->Prop),yr7 places parts=some ps->
 cells.size=l.length->(∀(j:Nat) (x:AV),l[j]?=some x->∃u,cells[j]?=some u/\RV1 w (Good g s.objs blk w) s.objs blk u x)->eY s ps l K->
 ∃(l':List AV) (cells':Array Value),K l'/\Instr.fill (λi=>places[i]?) cells (parts.map λp=>(p.1,a.eval p.2))=some cells'/\cells'.size=l'.length/\
  ∀(j:Nat) (x:AV),l'[j]?=some x->∃u,cells'[j]?=some u/\RV1 w (Good g s.objs blk w) s.objs blk u x
 |[],ps,l,cells,K,hb,hs,hr,hK=>by
  cases hb;exact⟨l,cells,hK,rfl,hs,hr⟩
 | (i,o)::parts,ps,l,cells,K,hb,hs,hr,hK=>by
  simp only[yr7]at hb;split at hb
  ·rename_i off n x xs h1 h2 h3;cases hb;obtain⟨k1,k2,k3,hK⟩:=hK;obtain⟨c1,c2⟩:=ya2 (h.ev h2) k2;obtain⟨f1,f2⟩:=yku off (a.eval o).cells cells (by omega)
   obtain⟨l',cells',r1,r2,r3,r4⟩:=ynC h parts xs _ ((a.eval o).cells.zipIdx.foldl (λcs (c,j)=>cs.setIfInBounds (off+j) c) cells) K h3 (by rw[f1];simp;omega) (by
    intro j y hy;rw[f2];rw[pY l _ off n k1 k3]at hy
    by_cases e1:j<off
    ·rw[if_pos e1]at hy;rw[if_neg (by omega)];exact hr j y hy
    ·rw[if_neg e1]at hy
     by_cases e2:j<off+n
     ·rw[if_pos e2]at hy;rw[if_pos (by omega)];obtain⟨u,hu,hru⟩:=c2 _ y hy;exact⟨u,by simpa using hu,hru⟩
     ·rw[if_neg e2]at hy;rw[if_neg (by omega)];exact hr j y hy) hK
   refine⟨l',cells',r1,?_,r3,r4⟩;simp only[zaD,Instr.fill,h1];rw[if_neg (by simp;omega)];exact r2
  ·cases hb
theorem ywK(h:Repr g s a w blk)(hd:∀i,o.dst=some i->i<g.N){t:TypeId}{it:TypeInfo}{fields:Array Field}{z:Value}{parts:Array (Nat×Operand)}{places:List (Nat×Nat)}{ps:List (Nat×Nat×X)}{zs:List AV}
 (ho:o.op=.build t parts) (hi:P.info? t=some it) (ht:P.underlying t=some (.struct fields)) (hz:it.zero=some z) (hp:fields.toList.mapM (λf=>(P.info? f.type).map λi=>(f.offset,i.size))=some places)
 {ks:List Nat} (hb:yr7 places parts.toList=some ps) (hzs:tV z.cells.toList ks=some zs) (hK:eY s ps zs λl=>K (s.put o.dst (.agg l))):kC P g o a w K:=by
 obtain⟨c1,c2⟩:=ybc hzs
 obtain⟨l',cells',r1,r2,r3,r4⟩:=ynC h parts.toList ps zs z.cells _ hb (by simpa using c1.symm) (λj x hx=>by
  obtain⟨u,k,hu,hr⟩:=c2 j x hx;exact⟨u,by simpa using hu,yeq hr⟩) hK
 have hbuilt:P.built t (parts.map λ(i,x)=>(i,a.eval x)).toList=some cells':=by
  simp only[Program.built,hi,ht,hz,hp];simpa using r2
 have hr:=run_build (P:=P) w t (parts.map λ(i,x)=>(i,a.eval x)) cells' hbuilt;refine kC.mO h hd r1 (v:=.agg cells') ?_ ⟨cells',rfl,r3,r4⟩;simp only[execOp,ho,Sem.run_bind,hr,Result.andThen_ok,Sem.run_pure]
theorem yhI(k:Nat):∀(vs:List Value) (m:Nat) (cells:Array Value),(∀v∈vs,v.cells.size=k)->cells.size=(m+vs.length)*k->
 ∃cells':Array Value,Instr.fill (λi=>some (i*k,k)) cells ((vs.zipIdx m).map λp=>(p.2,p.1))=some cells'/\cells'.size=cells.size/\(∀j,j<m*k->cells'[j]?=cells[j]?)/\
  ∀(i:Nat) (v:Value) (j:Nat),vs[i]?=some v->j<k->cells'[(m+i)*k+j]?=v.cells[j]?
 |[],m,cells,_,_=>⟨cells,rfl,rfl,λ_ _=>rfl,λi v j h=>by simp at h⟩
 | v::vs,m,cells,hk,hs=>by
  have hv:=hk v (by simp);have hmul:(m+(vs.length+1))*k=m*k+k+vs.length*k:=by rw[zaz,zaz,zaW];omega
  simp only[zaC]at hs;obtain⟨f1,f2⟩:=yku (m*k) v.cells cells (by omega);obtain⟨cells',r1,r2,r3,r4⟩:=yhI k vs (m+1) (v.cells.zipIdx.foldl (λcs (c,j)=>cs.setIfInBounds (m*k+j) c) cells) (λu hu=>hk u (by simp[hu])) (by rw[f1,hs];congr 1;omega);have hm1:(m+1)*k=m*k+k:=by rw[zaz,zaW]
  refine⟨cells',?_,by rw[r2,f1],λj hj=>?_,λi u j hu hj=>?_⟩
  ·simp only[zcF,zaD,Instr.fill];rw[if_neg (by simp;omega)];exact r1
  ·rw[r3 j (by omega),f2 j,if_neg (by omega)]
  ·cases i with
   |zero=>
    simp at hu;subst hu;rw[zbN,r3 _ (by omega),f2,if_pos (by omega)]
    congr 1;omega
   |succ i=>
    have:=r4 i u j (by simpa using hu) hj;rw[show m+1+i=m+(i+1)from by omega]at this;exact this
theorem yi4:∀(parts:List (Nat×Operand)) (m:Nat) (xs:List X),yi8 m parts=some xs->xs.length=parts.length/\(parts.map λp=>(p.1,a.eval p.2))=(((parts.map λp=>a.eval p.2).zipIdx m).map λp=>(p.2,p.1))/\cxs (parts.map (·.2))=some xs
 |[],m,xs,h=>by cases h;exact⟨rfl,rfl,rfl⟩
 | (i,o)::parts,m,xs,h=>by
  simp only[yi8]at h;split at h
  ·rename_i e;split at h
   ·rename_i x xs' h1 h2;cases h;obtain⟨r1,r2,r3⟩:=yi4 parts (m+1) xs' h2;subst e;refine⟨by simp[r1],by simp only[zaD,zcF];rw[r2],by simp only[zaD,cxs,h1,r3]⟩
   ·cases h
  ·cases h
theorem yrN{x:AV}{r:List C}{v:Value}(h:RVs g s w blk v x)(hx:x.rowOf=some r):v.cells.size=r.length/\∀(j:Nat) (c:C),r[j]?=some c->∃u,v.cells[j]?=some u/\Rd w (Good g s.objs blk w) u c:=by
 obtain⟨h1,h2⟩:=yhU hx
 have hok:x.cellsOf.all AV.bF=true:=by
  rw[zae];intro y hy;obtain⟨j,hj⟩:=zam hy;have hjl:j<r.length:=by rw[h1];exact(zab.1 hj).1
  obtain⟨y',h3,h4⟩:=h2 j _ (zaa hjl);rw[hj]at h3;cases h3;cases y<;>simp[AV.toC]at h4<;>rfl
 obtain⟨c1,c2⟩:=ya2 h hok;refine⟨by omega,λj c hj=>?_⟩;obtain⟨y,h3,h4⟩:=h2 j c hj;obtain⟨u,hu,hr⟩:=c2 j y h3;exact⟨u,by simpa using hu,ycy hr h4⟩
theorem yii:∀{l:List AV} {rows:List (List C)},AV.rowsOf l=some rows->rows.length=l.length/\∀(j:Nat) (r:List C),rows[j]?=some r->∃x,l[j]?=some x/\x.rowOf=some r
 |[],cs,h=>by cases h;exact⟨rfl,λj c hj=>by simp at hj⟩
 | x::l,cs,h=>by
  simp only[AV.rowsOf]at h;split at h
  ·rename_i c1 cs1 h1 h2;cases h;obtain⟨hl,hg⟩:=yii h2;refine⟨by simp[hl],λj c hj=>?_⟩;cases j with
   |zero=>simp at hj;subst hj;exact⟨x,rfl,h1⟩
   |succ j=>exact hg j c (by simpa using hj)
  ·cases h
theorem yhz{s:St}:∀{l:List AV} {p:List C×List Nat},pkl s l=some p->l.all AV.bF=true
 |[],_,_=>rfl
 | x::l,p,h=>by
  simp only[pkl]at h;split at h
  ·rename_i c a cs as h1 h2;have:=yhz h2
   have hx:x.bF=true:=by
    revert h1;cases x<;>simp[pk1,AV.bF]
   simp[hx,this]
  ·cases h
theorem ytu(h:Repr g s a w blk):∀{l:List AV} {us:List Value} {rows:List (List C)} {ids:List Nat},pks s l=some (rows,ids)->
 (∀(j:Nat) (x:AV),l[j]?=some x->∃u,us[j]?=some u/\RVs g s w blk u x)->ids.Nodup->
 ∃Fs:Nat->Nat->Nat->Prop,rows.length=l.length/\(∀(i:Nat) (r:List C),rows[i]?=some r->∃u,us[i]?=some u/\u.cells.size=r.length/\∀(j:Nat) (c:C),r[j]?=some c->∃z,u.cells[j]?=some z/\OT w (Good g s.objs blk w) z c (Fs i j))/\
  (∀i j y,Fs i j y->∃i0,i0∈ids/\s.objs i0≠.none/\blk.fp i0 y)/\(∀i j i' j' y,Fs i j y->Fs i' j' y->i=i'/\j=j')
 |[],us,rows,ids,hp,_,_=>by
  cases hp;exact⟨λ_ _=>noF,rfl,λj c hj=>by simp at hj,λ_ _ _ h=>h.elim,λ_ _ _ _ _ h=>h.elim⟩
 | x ::l,us,rows,ids,hp,hv,hnd=>by
  simp only[pks]at hp;split at hp
  ·rename_i c a1 cs1 as1 h1 h2;cases hp;obtain⟨u0,hu0,hr0⟩:=hv 0 x rfl;have hnd':=zaU.1 hnd;obtain⟨c1,c2⟩:=ya2 hr0 (yhz h1);obtain⟨F0,f1,f2,f3,f4⟩:=yoq h (us:=u0.cells.toList) h1 c2 hnd'.1
   obtain⟨Fs,e1,e2,e3,e4⟩:=ytu h (us:=us.tail) h2 (λj y hj=>by
    obtain⟨u,hu,hr⟩:=hv (j+1) y (by simpa using hj);exact⟨u,by simpa[zba]using hu,hr⟩) hnd'.2.1
   refine⟨λi=>match i with|0=>F0|i+1=>Fs i,by simp[e1],λi r hi=>?_,λi j y hy=>?_,λi j i' j' y hy hy'=>?_⟩
   ·cases i with
    |zero=>
     simp at hi;subst hi;refine⟨u0,hu0,by omega,λj c' hj=>?_⟩;obtain⟨z,hz,ho⟩:=f2 j c' hj;exact⟨z,by simpa using hz,ho⟩
    |succ i=>
     obtain⟨u,hu,hr⟩:=e2 i r (by simpa using hi);exact⟨u,by simpa[zba]using hu,hr⟩
   ·cases i with
    |zero=>obtain⟨i0,m1,m2⟩:=f3 j y hy;exact⟨i0,zaT _ m1,m2⟩
    |succ i=>obtain⟨i0,m1,m2⟩:=e3 i j y hy;exact⟨i0,zaw _ m1,m2⟩
   ·have cross:∀j i j',F0 j y->Fs i j' y->False:=by
     intro j i j' q1 q2;obtain⟨i0,m1,m2,m3⟩:=f3 j y q1;obtain⟨i1,n1,n2,n3⟩:=e3 i j' y q2;have:=h.inj i0 i1 y m2 n2 m3 n3;subst this;exact hnd'.2.2 i0 m1 i0 n1 rfl
    cases i with
    |zero=>cases i' with
     |zero=>exact⟨rfl,f4 j j' y hy hy'⟩
     |succ i'=>exact(cross j i' j' hy hy').elim
    |succ i=>cases i' with
     |zero=>exact(cross j' i j hy' hy).elim
     |succ i'=>obtain⟨q1,q2⟩:=e4 i j i' j' y hy hy';exact⟨by rw[q1],q2⟩
  ·cases hp
theorem St.ysc(l:List Nat)(s:St)(i:Nat):(s.drops l).ob i=if i∈l then .none else(s.objs i).kills l:=St.dO l s i
theorem Repr.yqO(h:Repr g s a w blk){d k:Nat}{ids:List Nat}{rows:List (List C)}{arr:Array Value}{e:TypeId}(hd:(s.drops ids).ob d=.none)(hsz:rows.length*k<=arr.size)(hk:∀r,r∈rows->r.length=k){Fs:Nat->Nat->Nat->Prop}
 (hot:∀(i:Nat) (r:List C),rows[i]?=some r->∀(j:Nat) (c:C),r[j]?=some c->∃u,arr[i*k+j]?=some u/\OT w (Good g s.objs blk w) u c (Fs i j))
 (hF:∀i j y,Fs i j y->∃i0,i0∈ids/\s.objs i0≠.none/\blk.fp i0 y) (hdis:∀i j i' j' y,Fs i j y->Fs i' j' y->i=i'/\j=j'):
 ∃L':Lay,L' d=some w.heap.size/\Repr g ⟨(s.drops ids).env,upd d (.tr k 0 rows) (s.drops ids).objs⟩ a (w.alloc (.cells arr e)) L':=by
 have hup:∀(o':Obj) j,upd d o' (s.drops ids).objs j=if j=d then o' else(s.drops ids).objs j:=λ_ _=>rfl
 have hoff:Off noF w (w.alloc (.cells arr e)):=(Off.refl noF w).alloc _;have henv:(s.drops ids).env=λt=>(s.env t).kills ids:=by funext t;exact St.yaQ ids s t
 have hdn:d∉ids->s.objs d=.none:=by
  intro hm;rw[St.ysc,if_neg hm]at hd;cases hs:s.objs d with
  |none=>rfl
  |_=>exact absurd hd ((Obj.qP ids _).2 (by rw[hs];simp))
 refine⟨blk.upd d (some w.heap.size) (λy=>∃i0,i0∈ids/\s.objs i0≠.none/\blk.fp i0 y),by show(blk.upd _ _ _).root d=_;rw[Lay.xE,if_pos rfl],?_⟩;rw[henv];refine h.turn ids (λj=>j=d) hoff (λy hy=>hy.elim) (λj hj=>?_) (λj y hj _ hf=>?_) (λj j' y hj hj' _ _ _ _=>hj.trans hj'.symm) (λj y hj _ hr'=>?_) (λj hj hm hl=>?_) (λj k' v' rows' hj hm hk=>?_) (λG' K j hj=>?_)
 ·exact⟨by rw[hup,if_neg hj,St.dO],by rw[Lay.xE,if_neg hj],by rw[Lay.sH,if_neg hj]⟩
 ·subst hj;rw[Lay.yfm,if_pos rfl]at hf;rcases hf with hf|⟨i0,m1,m2,m3⟩
  ·cases hf;exact .inr ⟨Nat.le_refl _,by simp⟩
  ·exact .inl ⟨i0,.inr m1,m2,m3⟩
 ·subst hj;rw[Lay.xE,if_pos rfl]at hr';cases hr';rw[Lay.sH,if_pos rfl]
  rintro⟨i0,m1,m2,m3⟩
  have:=(h.new i0 _ m2 m3).2;omega
 ·subst hj;exact absurd (hdn hm) hl
 ·subst hj;rw[hdn hm]at hk;cases hk
 ·subst hj;rw[hup,if_pos rfl,Lay.xE,if_pos rfl,Lay.sH,if_pos rfl];refine .inr ⟨_,arr,e,rfl,heap_alloc_new w _,hsz,hk,λi2 j2=>(arr[i2*k+j2]?).getD undef,Fs,λi2 j2 y hy=>⟨hF i2 j2 y hy,?_⟩,hdis,λi2 r hr j2 c hc=>?_,λi2 r hr j2 c hc=>?_⟩
  ·obtain⟨i0,m1,m2,m3⟩:=hF i2 j2 y hy;have:=(h.new i0 y m2 m3).2;omega
  ·obtain⟨u,hu,_⟩:=hot i2 r hr j2 c hc;dsimp only;rw[hu];rfl
  ·obtain⟨u,hu,ho⟩:=hot i2 r hr j2 c hc;dsimp only;rw[hu];refine ho.mono K.good K.cell (λ_ h=>h) λy hy=>?_;obtain⟨i0,m1,m2,m3⟩:=hF i2 j2 y hy;exact Below.heap_alloc w _ y (h.new i0 y m2 m3).2
theorem ywS(h:Repr g s a w blk)(hd:∀i,o.dst=some i->i<g.N){t e:TypeId}{i:TypeInfo}{z:Value}{n:Nat}{parts:Array (Nat×Operand)}{xs:List X}(ho:o.op=.buildSlice t n parts)(ht:P.underlying t=some (.slice e))(hi:P.info? e=some i)(hz:i.zero=some z)
 (hx:yi8 0 parts.toList=some xs) (hn:xs.length=n) (hmax:n*i.size<=1000) (hpos:0<i.size) (hK:ygH i.size (xs.map s.ev) s o.dst K):kC P g o a w K:=by
 obtain⟨p1,p2,p3⟩:=yi4 (a:=a) parts.toList 0 xs hx;obtain⟨e1,e2⟩:=h.evs p3;unfold ygH at hK;split at hK
 ·rename_i rows hrows;obtain⟨hk,hK⟩:=hK;obtain⟨g1,g2⟩:=yii hrows;have hlen:rows.length=n:=by rw[g1,zbi,hn]
  have hvals:∀(q:Nat) (r:List C),rows[q]?=some r->∃v,((parts.toList.map (·.2)).map a.eval)[q]?=some v/\v.cells.size=r.length/\∀(j:Nat) (c:C),r[j]?=some c->∃u,v.cells[j]?=some u/\Rd w (Good g s.objs blk w) u c:=by
   intro q r hq;obtain⟨x,hx1,hx2⟩:=g2 q r hq;obtain⟨v,hv,hr⟩:=e2 q x hx1;exact⟨v,hv,yrN hr hx2⟩
  have hvl:((parts.toList.map (·.2)).map a.eval).length=n:=by rw[e1,zbi,hn]
  obtain⟨cells',f1,f2,f3,f4⟩:=yhI i.size ((parts.toList.map (·.2)).map a.eval) 0 ((Array.range (n*i.size)).map ((if n*i.size=0 then #[]else z.cells)[·%(if n*i.size=0 then #[]else z.cells).size]!)) (by
   intro v hv;obtain⟨q,hq⟩:=zam hv;have hql:q<rows.length:=by rw[hlen,<-hvl];exact(zab.1 hq).1
   obtain⟨v',h1,h2,_⟩:=hvals q _ (zaa hql);rw[hq]at h1;cases h1;rw[h2];exact hk _ (zbx hql)) (by rw[zaR,hvl];simp)
  have hparts:parts.toList.map (λx=>(x.1,a.eval x.2))=((((parts.toList.map (·.2)).map a.eval).zipIdx 0).map λp=>(p.2,p.1)):=by
   rw[zcr];exact p2
  rw[<-hparts]at f1;refine yar h hd (v:=.slice (some ⟨w.heap.size,0,none⟩) n n) (arr:=cells') (e:=e) ?_ ?_ ?_ hK
  ·have hbig:¬(n*i.size>2^24):=by omega
   by_cases h0:n*i.size=0
   ·simp only[h0,if_true,zci,Array.map_empty]at f1;simp[execOp,ho,Instr.buildSlice,run_underlying ht,dH hi,h0,f1,bU,zci]
   ·simp only[h0,if_false]at f1;simp[execOp,ho,Instr.buildSlice,run_underlying ht,dH hi,h0,hbig,zeroValue,typeInfo,hi,hz,f1,bU]
  ·intro w' G' O' blk' KK hh;refine .inr ⟨_,_,_,rfl,hh,by rw[f2,hlen];simp,hk,λq r j c hq hj=>?_⟩;obtain⟨v,h1,h2,h3⟩:=hvals q r hq;obtain⟨u,hu,hr⟩:=h3 j c hj;have hjk:j<i.size:=by rw[<-hk r (zac hq)];exact(zab.1 hj).1
   have:=f4 q v j h1 hjk;rw[zaR]at this;exact⟨u,by rw[this];exact hu,hr.mono KK.good KK.cell⟩
  ·intro d G' O' blk' hO hb hh;refine⟨_,by rw[hO];rfl,Nat.le_refl _,.inr ⟨_,n,_,_,hb,by rw[hlen],by omega,?_,hh,by rw[f2];simp⟩⟩;have:n*1<=n*i.size:=zcW _ hpos;unfold maxLen;omega
 ·split at hK
  case h_2=>exact hK.elim
  rename_i rows ids hpk;obtain⟨hk,hnd,hK⟩:=hK;obtain⟨Fs,g1,g2,g3,g4⟩:=ytu h hpk e2 hnd;have hlen:rows.length=n:=by rw[g1,zbi,hn]
  have hvl:((parts.toList.map (·.2)).map a.eval).length=n:=by rw[e1,zbi,hn]
  obtain⟨cells',f1,f2,f3,f4⟩:=yhI i.size ((parts.toList.map (·.2)).map a.eval) 0 ((Array.range (n*i.size)).map ((if n*i.size=0 then #[]else z.cells)[·%(if n*i.size=0 then #[]else z.cells).size]!)) (by
   intro v hv;obtain⟨q,hq⟩:=zam hv;have hql:q<rows.length:=by rw[hlen,<-hvl];exact(zab.1 hq).1
   obtain⟨v',h1,h2,_⟩:=g2 q _ (zaa hql);rw[hq]at h1;cases h1;rw[h2];exact hk _ (zbx hql)) (by rw[zaR,hvl];simp)
  have hparts:parts.toList.map (λx=>(x.1,a.eval x.2))=((((parts.toList.map (·.2)).map a.eval).zipIdx 0).map λp=>(p.2,p.1)):=by
   rw[zcr];exact p2
  rw[<-hparts]at f1
  have hrun:(execOp a.eval o).run P w=.ok (.value (.slice (some ⟨w.heap.size,0,none⟩) n n)) (w.alloc (.cells cells' e)):=by
   have hbig:¬(n*i.size>2^24):=by omega
   by_cases h0:n*i.size=0
   ·simp only[h0,if_true,zci,Array.map_empty]at f1;simp[execOp,ho,Instr.buildSlice,run_underlying ht,dH hi,h0,f1,bU,zci]
   ·simp only[h0,if_false]at f1;simp[execOp,ho,Instr.buildSlice,run_underlying ht,dH hi,h0,hbig,zeroValue,typeInfo,hi,hz,f1,bU]
  unfold newP at hK;split at hK
  ·rename_i d hdst;obtain⟨hd0,hK⟩:=hK
   obtain⟨L',hL,hre⟩:=h.yqO (d:=d) (k:=i.size) (arr:=cells') (e:=e) (Fs:=Fs) (kR hd0) (by rw[f2,hlen];simp) hk (λi2 r hr j c hc=>by
    obtain⟨v,h1,h2,h3⟩:=g2 i2 r hr;obtain⟨u,hu,ho⟩:=h3 j c hc;have hjk:j<i.size:=by rw[<-hk r (zac hr)];exact(zab.1 hc).1
    have:=f4 i2 v j h1 hjk;rw[zaR]at this;exact⟨u,by rw[this];exact hu,ho⟩) g3 g4
   refine⟨_,_,hrun,_,L',hK,?_⟩
   have hput:=hre.put (d:=some d) (v:=.slice (some ⟨w.heap.size,0,none⟩) n n) (x:=.own d i.size rows.length) (by rw[<-hdst];exact hd) (by
    refine⟨rows.length,by simp[upd,Obj.xJ],Nat.le_refl _,.inr ⟨_,n,cells',e,hL,by rw[hlen],by omega,?_,heap_alloc_new w _,by rw[f2];simp⟩⟩;have:n*1<=n*i.size:=zcW _ hpos;unfold maxLen;omega)
   rw[hdst];exact hput
  ·exact hK.elim
end
end Go.Proofs.YtpiplmnecmkafaaGreat
namespace Go.Proofs.YtpiplmnecmkafaaGreat
open Go.RowKit
theorem Rd.cut{w:World}{G:Nat->Prop}{ad:Option Addr}{len cap k:Nat}{rows:List (List C)}(h:Rd w G (.slice ad len cap) (.sl k rows)){l q m:Nat}(h1:l<=q)(h2:q<=len)(h3:q<=m)(h4:m<=cap):
 Rd w G (.slice (if m=l then ad else ad.map (·.add (l*k))) (q-l) (m-l)) (.sl k ((rows.take q).drop l)):=by
 cases h with
 | sl vals e1 e2 e3 e4 e5 e6 e7=>
  have get:∀i r,((rows.take q).drop l)[i]?=some r->rows[l+i]?=some r/\l+i<q:=by
   intro i r hr;rw[zaF,zas]at hr;split at hr
   ·exact⟨hr,‹_›⟩
   ·cases hr
  refine .sl (λi j=>vals (l+i) j) (by simp;omega) (by omega) (by omega) (λr hr=>?_) (λhl=>?_) (λi r hr j c hc=>?_) (λi r hr j c hc=>?_)
  ·exact e4 r (zaP (zby hr))
  ·rw[if_neg (by omega)];have:=e5 (by omega);cases ad<;>simp_all
  ·obtain⟨hr',hlt⟩:=get i r hr;obtain⟨ad',rfl,hg,hcell⟩:=e6 _ r hr' j c hc;refine⟨ad'.add (l*k),by rw[if_neg (by omega)];rfl,by rw[block_add];exact hg,?_⟩;rw[add_add,<-hcell]
   congr 2
   rw[zaz];omega
  ·exact e7 _ r (get i r hr).1 j c hc
section
variable {P:Program} {g:Ghost} {o:Oper} {s:St} {a:Act} {w:World} {blk:Lay} {K:St->Prop}
theorem iM{n:Int}{y:Nat}{code:BoundsCode}(h0:0<=n)(h1:n<=y)(w:World):(Instr.sliceBound (.int .i64 n) y code).run P w=.ok n.toNat w:=by
 simp[Instr.sliceBound,asIntOf,h0,h1]
theorem ylR{t e:TypeId}{i:TypeInfo}(ht:P.underlying t=some (.slice e))(hi:P.info? e=some i)(ad:Option Addr)(len cap:Nat){l h:Int}(h0:0<=l)(h1:l<=h)(h2:h<=cap)(w:World):
 (Instr.sliceAt t (.slice ad len cap) (some (.int .i64 l)) (some (.int .i64 h)) none).run P w=.ok (.slice (if cap=l.toNat then ad else ad.map (·.add (l.toNat*i.size))) (h.toNat-l.toNat) (cap-l.toNat)) w:=by
 have b1:=iM (P:=P) (n:=h) (y:=cap) (code:=.sliceAcap) (by omega) h2 w;have b2:=iM (P:=P) (n:=l) (y:=h.toNat) (code:=.sliceB) h0 (by omega) w;simp[Instr.sliceAt,Instr.slice,run_underlying ht,Instr.sliceBounds,b1,b2,dH hi]
theorem ydg{t e:TypeId}{i:TypeInfo}(ht:P.underlying t=some (.slice e))(hi:P.info? e=some i)(ad:Option Addr)(len cap:Nat){l:Int}(h0:0<=l)(h1:l<=len)(w:World):
 (Instr.sliceAt t (.slice ad len cap) (some (.int .i64 l)) none none).run P w=.ok (.slice (if cap=l.toNat then ad else ad.map (·.add (l.toNat*i.size))) (len-l.toNat) (cap-l.toNat)) w:=by
 have b2:=iM (P:=P) (n:=l) (y:=len) (code:=.sliceB) h0 h1 w;simp[Instr.sliceAt,Instr.slice,run_underlying ht,Instr.sliceBounds,b2,dH hi]
theorem ybt{t e:TypeId}{i:TypeInfo}(ht:P.underlying t=some (.slice e))(hi:P.info? e=some i)(ad:Option Addr)(len cap:Nat){h:Int}(h0:0<=h)(h1:h<=cap)(w:World):
 (Instr.sliceAt t (.slice ad len cap) none (some (.int .i64 h)) none).run P w=.ok (.slice (if cap=0 then ad else ad.map (·.add (0*i.size))) h.toNat cap) w:=by
 have b1:=iM (P:=P) (n:=h) (y:=cap) (code:=.sliceAcap) h0 h1 w;simp[Instr.sliceAt,Instr.slice,run_underlying ht,Instr.sliceBounds,b1,dH hi]
theorem yh3{t e:TypeId}{i:TypeInfo}(ht:P.underlying t=some (.slice e))(hi:P.info? e=some i)(ad:Option Addr)(len cap:Nat){h m:Int}(h0:0<=h)(h1:h<=m)(h2:m<=cap)(w:World):
 (Instr.sliceAt t (.slice ad len cap) none (some (.int .i64 h)) (some (.int .i64 m))).run P w=.ok (.slice (if m.toNat=0 then ad else ad.map (·.add (0*i.size))) h.toNat m.toNat) w:=by
 have b1:=iM (P:=P) (n:=m) (y:=cap) (code:=.slice3Acap) (by omega) h2 w;have b2:=iM (P:=P) (n:=h) (y:=m.toNat) (code:=.slice3B) h0 (by omega) w;simp[Instr.sliceAt,Instr.slice,run_underlying ht,Instr.sliceBounds,b1,b2,dH hi]
theorem dL(ad:Option Addr)(k:Nat)(c:Prop)[Decidable c]:(if c then ad else ad.map (·.add (0*k)))=ad:=by
 rw[Nat.zero_mul];cases ad<;>simp[Addr.add]
theorem yla(h:Repr g s a w blk)(hd:∀i,o.dst=some i->i<g.N){t e:TypeId}{k:Nat}{p:Operand}{lo hi mx:Option Operand}{xp:X}{xl xh xm:Option X}(ho:o.op=.slice t p lo hi mx)(ht:P.underlying t=some (.slice e))(hk:bY P e=some k)
 (hp:cx p=some xp) (hl:∀y,lo=some y->∃x,xl=some x/\cx y=some x) (hh:∀y,hi=some y->∃x,xh=some x/\cx y=some x) (hm:∀y,mx=some y->∃x,xm=some x/\cx y=some x)
 (nl:lo=none->xl=none) (nh:hi=none->xh=none) (nm:mx=none->xm=none)
 (hK:ya6 k (s.ev xp) (xl.map s.ev) (xh.map s.ev) (xm.map s.ev) λv=>K (s.put o.dst v)):kC P g o a w K:=by
 obtain⟨i,hi',rfl⟩:=bV hk;have ep:=h.ev hp
 have rl:∀n:Int,xl.map s.ev=some (.c (.i n))->lo.map a.eval=some (.int .i64 n):=by
  intro n hn;cases lo with
  |none=>rw[nl rfl]at hn;cases hn
  |some y=>
   obtain⟨x,rfl,hx⟩:=hl y rfl;have:=h.ev hx;simp only[zaB,Option.some.injEq]at hn;rw[hn]at this;simp[this.int.1]
 have rh:∀n:Int,xh.map s.ev=some (.c (.i n))->hi.map a.eval=some (.int .i64 n):=by
  intro n hn;cases hi with
  |none=>rw[nh rfl]at hn;cases hn
  |some y=>
   obtain⟨x,rfl,hx⟩:=hh y rfl;have:=h.ev hx;simp only[zaB,Option.some.injEq]at hn;rw[hn]at this;simp[this.int.1]
 have rm:∀n:Int,xm.map s.ev=some (.c (.i n))->mx.map a.eval=some (.int .i64 n):=by
  intro n hn;cases mx with
  |none=>rw[nm rfl]at hn;cases hn
  |some y=>
   obtain⟨x,rfl,hx⟩:=hm y rfl;have:=h.ev hx;simp only[zaB,Option.some.injEq]at hn;rw[hn]at this;simp[this.int.1]
 have ul:xl.map s.ev=none->lo.map a.eval=none:=by
  intro hn;cases lo with
  |none=>rfl
  |some y=>obtain⟨x,rfl,hx⟩:=hl y rfl;cases hn
 have uh:xh.map s.ev=none->hi.map a.eval=none:=by
  intro hn;cases hi with
  |none=>rfl
  |some y=>obtain⟨x,rfl,hx⟩:=hh y rfl;cases hn
 have um:xm.map s.ev=none->mx.map a.eval=none:=by
  intro hn;cases mx with
  |none=>rfl
  |some y=>obtain⟨x,rfl,hx⟩:=hm y rfl;cases hn
 have run:∀r,(Instr.sliceAt t (a.eval p) (lo.map a.eval) (hi.map a.eval) (mx.map a.eval)).run P w=.ok r w->(execOp a.eval o).run P w=.ok (.value r) w:=by
  intro r hr;simp only[execOp,ho,Sem.run_bind,hr,Result.andThen_ok,Sem.run_pure]
 revert hK ep rl rh rm ul uh um run;generalize s.ev xp=vp;generalize a.eval p=v;generalize xl.map s.ev=vl;generalize xh.map s.ev=vh;generalize xm.map s.ev=vm;generalize lo.map a.eval=ul;generalize hi.map a.eval=uh;generalize mx.map a.eval=um;intro hK ep rl rh rm nl nh nm run;unfold ya6 at hK;split at hK
 ·rename_i k' rows l q;obtain⟨rfl,h0,h1,h2,hK⟩:=hK;cases rl _ rfl;cases rh _ rfl;cases nm rfl
  obtain⟨ad,len,cap,e1,hr⟩:∃ad len cap,v=.slice ad len cap/\rows.length=len:=by
   cases ep.c;exact⟨_,_,_,rfl,‹_›⟩
  subst e1;have hlc:len<=cap:=by cases ep.c;assumption
  refine kC.mO h hd hK (run _ (ylR ht hi' ad len cap h0 h1 (by omega) w)) (.mk ?_);exact Rd.cut ep.c (by omega) (by omega) (by omega) (Nat.le_refl _)
 ·rename_i k' rows l;obtain⟨rfl,h0,h1,hK⟩:=hK;cases rl _ rfl;cases nh rfl;cases nm rfl
  obtain⟨ad,len,cap,e1,hr⟩:∃ad len cap,v=.slice ad len cap/\rows.length=len:=by
   cases ep.c;exact⟨_,_,_,rfl,‹_›⟩
  subst e1;have hlc:len<=cap:=by cases ep.c;assumption
  refine kC.mO h hd hK (run _ (ydg ht hi' ad len cap h0 (by omega) w)) (.mk ?_);have:=Rd.cut ep.c (l:=l.toNat) (q:=len) (m:=cap) (by omega) (Nat.le_refl _) hlc (Nat.le_refl _)
  rwa [zaf (by omega)]at this
 ·rename_i k' rows q;obtain⟨rfl,h0,h1,hK⟩:=hK;cases nl rfl;cases rh _ rfl;cases nm rfl
  obtain⟨ad,len,cap,e1,hr⟩:∃ad len cap,v=.slice ad len cap/\rows.length=len:=by
   cases ep.c;exact⟨_,_,_,rfl,‹_›⟩
  subst e1;have hlc:len<=cap:=by cases ep.c;assumption
  have hrun:=ybt (P:=P) ht hi' ad len cap h0 (by omega) w;rw[dL]at hrun;refine kC.mO h hd hK (run _ hrun) (.mk ?_);have:=Rd.cut ep.c (l:=0) (q:=q.toNat) (m:=cap) (by omega) (by omega) (by omega) (Nat.le_refl _);rw[dL]at this;exact this
 ·rename_i k' rows q m;obtain⟨rfl,h0,rfl,h1,hK⟩:=hK;cases nl rfl;cases rh _ rfl;cases rm _ rfl
  obtain⟨ad,len,cap,e1,hr⟩:∃ad len cap,v=.slice ad len cap/\rows.length=len:=by
   cases ep.c;exact⟨_,_,_,rfl,‹_›⟩
  subst e1;have hlc:len<=cap:=by cases ep.c;assumption
  have hrun:=yh3 (P:=P) ht hi' ad len cap h0 (zbJ _) (by omega) w;rw[dL]at hrun;have:=Rd.cut ep.c (l:=0) (q:=q.toNat) (m:=q.toNat) (by omega) (by omega) (by omega) (by omega);rw[dL]at this;exact kC.mO h hd hK (run _ hrun) ⟨ad,_,rfl,this⟩
 ·rename_i id k' n q;obtain⟨rfl,h0,h1,hK⟩:=hK;cases nl rfl;cases rh _ rfl;cases nm rfl;obtain⟨m0,hO,hn,hv⟩:=ep;rcases hv with⟨hb,rfl,A0,rfl⟩|⟨b,cap,arr,e',hb,rfl,h2,h3,h4,h5⟩
  ·have hrun:=ybt (P:=P) ht hi' A0 0 0 h0 (by omega) w;rw[dL]at hrun;have e0:q.toNat=0:=by omega
   rw[e0]at hrun;exact kC.mO h hd hK (run _ hrun) ⟨m0,hO,by omega,.inl ⟨hb,by omega,A0,rfl⟩⟩
  ·have hrun:=ybt (P:=P) ht hi' (some ⟨b,0,none⟩) n cap h0 (by omega) w;rw[dL]at hrun;exact kC.mO h hd hK (run _ hrun) ⟨m0,hO,by omega,.inr ⟨b,cap,arr,e',hb,rfl,by omega,h3,h4,h5⟩⟩
 ·rename_i id k' n l;obtain⟨rfl,h0,h1,hK⟩:=hK;cases rl _ rfl;cases nh rfl;cases nm rfl;obtain⟨m0,hO,hn,hv⟩:=ep;rcases hv with⟨hb,rfl,A0,rfl⟩|⟨b,cap,arr,e',hb,rfl,h2,h3,h4,h5⟩
  ·have hrun:=ydg (P:=P) ht hi' A0 0 0 h0 (by omega) w;exact kC.mO h hd hK (run _ hrun) ⟨m0,_,_,hO,by omega,rfl,by omega,by unfold maxLen;omega,λhp=>by omega⟩
  ·have hrun:=ydg (P:=P) ht hi' (some ⟨b,0,none⟩) n cap h0 (by omega) w;refine kC.mO h hd hK (run _ hrun) ⟨m0,_,_,hO,by omega,rfl,by omega,by omega,λhp=>⟨b,hb,?_⟩⟩;rw[if_neg (by omega)];simp[add_lit]
 ·rename_i id k' n l q;obtain⟨rfl,h0,h1,h1',hK⟩:=hK;cases rl _ rfl;cases rh _ rfl;cases nm rfl;obtain⟨m0,hO,hn,hv⟩:=ep;rcases hv with⟨hb,rfl,A0,rfl⟩|⟨b,cap,arr,e',hb,rfl,h2,h3,h4,h5⟩
  ·have hrun:=ylR (P:=P) ht hi' A0 0 0 h0 h1 (by omega) w;exact kC.mO h hd hK (run _ hrun) ⟨m0,_,_,hO,by omega,rfl,by omega,by unfold maxLen;omega,λhp=>by omega⟩
  ·have hrun:=ylR (P:=P) ht hi' (some ⟨b,0,none⟩) n cap h0 h1 (by omega) w;refine kC.mO h hd hK (run _ hrun) ⟨m0,_,_,hO,by omega,rfl,by omega,by omega,λhp=>⟨b,hb,?_⟩⟩;rw[if_neg (by omega)];simp[add_lit]
 ·rename_i q;obtain⟨rfl,hK⟩:=hK;cases nl rfl;cases rh _ rfl;cases nm rfl;cases ep;have hrun:=ybt (P:=P) ht hi' none 0 0 (zbJ _) (by omega) w;rw[dL]at hrun;exact kC.mO h hd hK (run _ hrun) rfl
 ·rename_i q m;obtain⟨rfl,rfl,hK⟩:=hK;cases nl rfl;cases rh _ rfl;cases rm _ rfl;cases ep;have hrun:=yh3 (P:=P) ht hi' none 0 0 (zbJ _) (zbJ _) (by omega) w;rw[dL]at hrun;exact kC.mO h hd hK (run _ hrun) rfl
 ·exact hK.elim
theorem yyR(h:Repr g s a w blk)(hd:∀i,o.dst=some i->i<g.N){t e:TypeId}{k n:Nat}{p q:Operand}{xp xq:X}(ho:o.op=.slice t p none (some q) none)(ht:P.underlying t=some (.array n e))(hk:bY P e=some k)
 (hp:cx p=some xp) (hq:cx q=some xq) (hn:n<=maxLen)
 (hK:yeC k n s (s.ev xp) (s.ev xq) λv=>K (s.put o.dst v)):kC P g o a w K:=by
 obtain⟨i,hi',rfl⟩:=bV hk;have ep:=h.ev hp;have eq:=h.ev hq;unfold yeC at hK;split at hK
 ·rename_i id k' j q' hx1 hx2;rw[hx1]at ep;rw[hx2]at eq;split at hK
  ·rename_i k2 rows hO;obtain⟨rfl,rfl,h0,h1,h2,hK⟩:=hK;obtain⟨b,rows',hO',hb,e1⟩:=ep
   have e3:k2=i.size:=by
    have:(s.ob id).xJ=some (i.size,rows'):=hO';rw[hO]at this;simp[Obj.xJ]at this;exact this.1
   subst e3;obtain⟨e2,_⟩:=eq.int;obtain⟨arr,e',r1,r2,r3,r4⟩:=h.row hO hb
   have hrun:(execOp a.eval o).run P w=.ok (.value (.slice (some ⟨b,0,none⟩) q'.toNat n)) w:=by
    have b1:=iM (P:=P) (n:=q') (y:=n) (code:=.sliceAlen) h0 (by omega) w;have e4:a.eval p=.pointer (some ⟨b,0,none⟩):=by simpa using e1
    simp[execOp,ho,Instr.sliceAt,run_underlying ht,Instr.sureAddr,e4,e2,Instr.sliceBounds,b1,dH hi',Addr.add]
   refine kC.mO h hd hK hrun ⟨rows.length,by rw[show s.objs id=_ from hO];rfl,by omega,.inr ⟨b,n,arr,e',hb,rfl,by omega,hn,r1,by rw[<-h2];exact r2⟩⟩
  ·exact hK.elim
 ·exact hK.elim
theorem yok(h:Repr g s a w blk)(hd:∀i,o.dst=some i->i<g.N){t:TypeId}{p:Operand}{lo hi:Option Operand}{xp:X}{xl xh:Option X}(ho:o.op=.slice t p lo hi none)(ht:P.underlying t=some .string)
 (hp:cx p=some xp) (hl:∀y,lo=some y->∃x,xl=some x/\cx y=some x) (hh:∀y,hi=some y->∃x,xh=some x/\cx y=some x)
 (nl:lo=none->xl=none) (nh:hi=none->xh=none)
 (hK:ye0 (s.ev xp) (xl.map s.ev) (xh.map s.ev) λv=>K (s.put o.dst v)):kC P g o a w K:=by
 have ep:=h.ev hp
 have rl:∀n:Int,xl.map s.ev=some (.c (.i n))->lo.map a.eval=some (.int .i64 n):=by
  intro n hn;cases lo with
  |none=>rw[nl rfl]at hn;cases hn
  |some y=>
   obtain⟨x,rfl,hx⟩:=hl y rfl;have:=h.ev hx;simp only[zaB,Option.some.injEq]at hn;rw[hn]at this;simp[this.int.1]
 have rh:∀n:Int,xh.map s.ev=some (.c (.i n))->hi.map a.eval=some (.int .i64 n):=by
  intro n hn;cases hi with
  |none=>rw[nh rfl]at hn;cases hn
  |some y=>
   obtain⟨x,rfl,hx⟩:=hh y rfl;have:=h.ev hx;simp only[zaB,Option.some.injEq]at hn;rw[hn]at this;simp[this.int.1]
 have ul:xl.map s.ev=none->lo.map a.eval=none:=by
  intro hn;cases lo with
  |none=>rfl
  |some y=>obtain⟨x,rfl,hx⟩:=hl y rfl;cases hn
 have uh:xh.map s.ev=none->hi.map a.eval=none:=by
  intro hn;cases hi with
  |none=>rfl
  |some y=>obtain⟨x,rfl,hx⟩:=hh y rfl;cases hn
 have run:∀r,(Instr.sliceAt t (a.eval p) (lo.map a.eval) (hi.map a.eval) none).run P w=.ok r w->(execOp a.eval o).run P w=.ok (.value r) w:=by
  intro r hr;simp only[execOp,ho,Sem.run_bind,Option.map_none,hr,Result.andThen_ok,Sem.run_pure]
 revert hK ep rl rh ul uh run;generalize s.ev xp=vp;generalize a.eval p=v;generalize xl.map s.ev=vl;generalize xh.map s.ev=vh;generalize lo.map a.eval=ul;generalize hi.map a.eval=uh;intro hK ep rl rh nl nh run;unfold ye0 at hK;split at hK
 ·rename_i bs l q;obtain⟨h0,h1,h2,hK⟩:=hK;cases rl _ rfl;cases rh _ rfl;obtain⟨rfl,hs⟩:=ep.str;have b1:=iM (P:=P) (n:=q) (y:=bs.size) (code:=.sliceAlen) (by omega) h2 w;have b2:=iM (P:=P) (n:=l) (y:=q.toNat) (code:=.sliceB) h0 (by omega) w;refine kC.mO h hd hK (run (.string (bs.extract l.toNat q.toNat)) ?_) (.mk (.s (by simp;omega)));simp[Instr.sliceAt,Instr.slice,run_underlying ht,Instr.sliceBounds,b1,b2]
 ·rename_i bs l;obtain⟨h0,h1,hK⟩:=hK;cases rl _ rfl;cases nh rfl;obtain⟨rfl,hs⟩:=ep.str;have b2:=iM (P:=P) (n:=l) (y:=bs.size) (code:=.sliceB) h0 (by omega) w;refine kC.mO h hd hK (run (.string (bs.extract l.toNat bs.size)) ?_) (.mk (.s (by simp;omega)));simp[Instr.sliceAt,Instr.slice,run_underlying ht,Instr.sliceBounds,b2]
 ·rename_i bs q;obtain⟨h0,h1,hK⟩:=hK;cases nl rfl;cases rh _ rfl;obtain⟨rfl,hs⟩:=ep.str;have b1:=iM (P:=P) (n:=q) (y:=bs.size) (code:=.sliceAlen) (by omega) h1 w;refine kC.mO h hd hK (run (.string (bs.extract 0 q.toNat)) ?_) (.mk (.s (by simp;omega)));simp[Instr.sliceAt,Instr.slice,run_underlying ht,Instr.sliceBounds,b1]
 ·exact hK.elim
end
end Go.Proofs.YtpiplmnecmkafaaGreat
namespace Go.Proofs.YtpiplmnecmkafaaGreat
open Go.RowKit
def ybL:Bool->World->(Nat->Prop)->Value->C->(Nat->Prop)->Prop
 |true,w,G,u,c,_=>Rd w G u c
 |false,w,G,u,c,F=>OT w G u c F
theorem ybL.ot{fl:Bool}{w:World}{G:Nat->Prop}{u:Value}{c:C}{F:Nat->Prop}(h:ybL fl w G u c F):OT w G u c F:=by
 cases fl
 ·exact h
 ·exact .sh h
theorem ybL.yvF{fl:Bool}{w:World}{G:Nat->Prop}{u:Value}{c:C}{F:Nat->Prop}(h:Rd w G u c):ybL fl w G u c F:=by
 cases fl
 ·exact .sh h
 ·exact h
def mkO:Bool->Nat->List (List C)->Obj
 |true,k,r=>.row k r
 |false,k,r=>.tr k 0 r
theorem yix(fl:Bool)(k:Nat)(r:List (List C)):(mkO fl k r).xJ=some (k,r.length):=by cases fl<;>rfl
section
variable {g:Ghost} {s:St} {a:Act} {w:World} {blk:Lay}
theorem Repr.virt(h:Repr g s a w blk){d k:Nat}(fl:Bool)(hd:s.ob d=.none):
 Repr g ⟨s.env,upd d (mkO fl k []) s.objs⟩ a w (blk.upd d none noF):=by
 have hO:∀i,upd d (mkO fl k []) s.objs i=if i=d then mkO fl k []else s.objs i:=λi=>rfl
 have hd':s.objs d=.none:=hd;refine h.turn [] (λi=>i=d) (Off.refl noF w) (λq hq=>hq.elim) (λi hi=>?_) (λi b hi _ hf=>?_) (λi j b hi hj _ _ _ _=>hi.trans hj.symm) (λi b hi _ hr=>?_) (λi hi _ hl=>?_) (λi k v rows hi _ hk=>?_) (λG' K i hi=>?_)
 ·exact⟨by simp[hO,hi,Obj.jM],by rw[Lay.xE,if_neg hi],by rw[Lay.sH,if_neg hi]⟩
 ·subst hi;rw[Lay.yfm,if_pos rfl]at hf;rcases hf with hf|hf
  ·cases hf
  ·exact hf.elim
 ·subst hi;rw[Lay.xE,if_pos rfl]at hr;cases hr
 ·subst hi;exact absurd hd' hl
 ·subst hi;rw[hd']at hk;cases hk
 ·subst hi;rw[hO,if_pos rfl,Lay.sH,if_pos rfl,Lay.xE,if_pos rfl];cases fl
  ·exact .inl ⟨rfl,rfl⟩
  ·exact .inl ⟨rfl,rfl⟩
theorem yqg {G : Nat → Prop} {ad:Addr} {len cap k:Nat} {rows:List (List C)} (h:Rd w G (.slice (some ad) len cap) (.sl k rows)):
 ∃news:List Value,news.length=len*k/\(∀j u,news[j]?=some u->w.cell? (ad.add j)=some u)/\
  ∀(i:Nat) (r:List C) (j:Nat) (c:C),rows[i]?=some r->r[j]?=some c->∃u,news[i*k+j]?=some u/\Rd w G u c:=by
 cases h with
 | sl vals e1 e2 e3 e4 e5 e6 e7=>
  have key:∀(i:Nat) (r:List C) (j:Nat) (c:C),rows[i]?=some r->r[j]?=some c->w.cell? (ad.add (i*k+j))=some (vals i j):=by
   intro i r j c hr hc;obtain⟨ad',e,_,hcell⟩:=e6 i r hr j c hc;cases e;exact hcell
  have bound:∀(i:Nat) (r:List C) (j:Nat) (c:C),rows[i]?=some r->r[j]?=some c->i*k+j<len*k:=by
   intro i r j c hr hc;have h1:i<rows.length:=(zab.1 hr).1;have h2:j<k:=by rw[<-e4 r (zac hr)];exact(zab.1 hc).1
   have h3:(i+1)*k<=len*k:=zaj _ (by omega);rw[zaz,zaW]at h3;omega
  refine⟨(List.range (len*k)).map λj=>(w.cell? (ad.add j)).getD undef,by simp,λj u hu=>?_,λi r j c hr hc=>?_⟩
  ·have hj : j < len * k:=by have:=(zab.1 hu).1;simpa using this
   have hk : 0 < k:=by rcases zaK k with e|e;·subst e;omega
                       ·exact e
   have hi:j/k<rows.length:=by rw[e1];exact zcR (by rw[zcp];exact hj)
   have hr:=zaa hi;have hm:j%k<(rows[j/k]).length:=by rw[e4 _ (zbx hi)];exact zdo _ hk
   have:=key _ _ (j%k) _ hr (zaa hm);rw[show j/k*k+j%k=j from by rw[zcp];exact Nat.div_add_mod j k]at this;simp only[zaq,zbT hj,zaB,this,zbs,Option.some.injEq]at hu;rw[this,hu]
  ·have:=key i r j c hr hc;refine⟨vals i j,?_,e7 i r hr j c hc⟩;simp[zbT (bound i r j c hr hc),this]
theorem ym1(h:Repr g s a w blk){id k b:Nat}{rows:List (List C)}(hO:s.ob id=.row k rows)(hb:blk id=some b){lo n:Nat}(hn:lo+n<=rows.length):
 ∃news:List Value,news.length=((rows.drop lo).take n).length*k/\(∀j u,news[j]?=some u->w.cell? ((⟨b,lo*k,none⟩:Addr).add j)=some u)/\(∀r,r∈(rows.drop lo).take n->r.length=k)/\
  ∀(i:Nat) (r:List C) (j:Nat) (c:C),((rows.drop lo).take n)[i]?=some r->r[j]?=some c->∃u,news[i*k+j]?=some u/\Rd w (Good g s.objs blk w) u c:=by
 obtain⟨arr,e,r1,r2,r3,r4⟩:=h.row hO hb;have hlen:((rows.drop lo).take n).length=n:=by simp;omega
 have hle:(lo+n)*k<=rows.length*k:=zaj _ hn;rw[zaz]at hle;refine⟨(arr.toList.drop (lo*k)).take (n*k),by rw[hlen];simp;omega,λj u hu=>?_,λr hr=>r3 r (zby (zaP hr)),λi r j c hr hc=>?_⟩
 ·rw[zas]at hu;split at hu
  ·rw[zaF]at hu;rw[add_lit,cell_of w r1];simpa using hu
  ·cases hu
 ·rw[zas]at hr;split at hr
  ·rename_i hin;rw[zaF]at hr;obtain⟨u,hu,hru⟩:=r4 _ r j c hr hc;have hj:j<k:=by rw[<-r3 r (zac hr)];exact(zab.1 hc).1
   have h5:(i+1)*k<=n*k:=zaj _ hin;rw[zaz,zaW]at h5;refine⟨u,?_,hru⟩;rw[zas,if_pos (by omega),zaF];rw[show lo*k+(i*k+j)=(lo+i)*k+j by rw[zaz];omega];simpa using hu
  ·cases hr
def ymP(fl:Bool)(w:World)(G:Nat->Prop)(v:Value)(k:Nat)(new:List (List C))(Fn:Nat->Nat->Nat->Prop):Prop:=
 ∃ A c,v=.slice A new.length c/\(A=none->new=[])/\(∀r,r∈new->r.length=k)/\∀ad,A=some ad->∃news:List Value,news.length=new.length*k/\(∀j u,news[j]?=some u->w.cell? (ad.add j)=some u)/\
     ∀(i:Nat) (r:List C) (j:Nat) (c:C),new[i]?=some r->r[j]?=some c->∃u,news[i*k+j]?=some u/\ybL fl w G u c (Fn i j)
theorem src_ok(h:Repr g s a w blk){v:Value}{y:AV}{k:Nat}{new:List (List C)}(hv:RVs g s w blk v y)(hs:jF s k y=some new):ymP true w (Good g s.objs blk w) v k new (λ_ _=>noF):=by
 have rd:∀rows,Rd w (Good g s.objs blk w) v (.sl k rows)->new=rows->ymP true w (Good g s.objs blk w) v k new (λ_ _=>noF):=by
  intro rows hr e;subst e;have hr':=hr;cases hr with
  | sl vals e1 e2 e3 e4 e5 e6 e7=>
   rename_i A len cap;subst e1;refine⟨A,cap,rfl,λe=>?_,e4,λad e=>?_⟩
   ·subst e;have:¬0<new.length:=λhl=>by simpa using e5 hl
    exact zaE (by omega)
   ·subst e;exact yqg hr'
 unfold jF at hs;split at hs
 ·rename_i k' rows;split at hs
  ·rename_i e;subst e;cases hs;exact rd _ hv.c rfl
  ·cases hs
 ·rename_i k' rows;split at hs
  ·rename_i e;subst e;cases hs;obtain⟨_,_,_,hr⟩:=hv;exact rd _ hr rfl
  ·cases hs
 ·rename_i id k' n;split at hs
  ·rename_i k2 rows hO;split at hs
   ·rename_i e;subst e;cases hs;obtain⟨m,hO',hn,hval⟩:=hv
    have e3:k2=k'/\rows.length=m:=by
     have:(s.ob id).xJ=some (k',m):=hO';rw[hO]at this;simpa[Obj.xJ]using this
    obtain⟨rfl,rfl⟩:=e3;have hlen:(rows.take n).length=n:=by simp;omega
    rcases hval with⟨hb,rfl,A0,rfl⟩|⟨b,cap,arr,e,hb,rfl,h1,h2,h3,h4⟩
    ·exact⟨A0,0,by simp,λ_=>by simp,λr hr=>by simp at hr,λad e=>⟨[],by simp,λj u hu=>by simp at hu,λi r j c hr=>by simp at hr⟩⟩
    ·obtain⟨news,n1,n2,n3,n4⟩:=ym1 h hO hb (lo:=0) (n:=n) (by omega);simp only[List.drop_zero]at n1 n3 n4;refine⟨some ⟨b,0,none⟩,cap,by rw[hlen],λe=>(by cases e),n3,λad e=>?_⟩;cases e;exact⟨news,n1,by simpa using n2,n4⟩
   ·cases hs
  ·cases hs
 ·rename_i id k' lo n;split at hs
  ·rename_i k2 rows hO;split at hs
   ·rename_i e;subst e;cases hs;obtain⟨m,A,c,hO',hn,rfl,h1,h2,h3⟩:=hv
    have e3:k2=k'/\rows.length=m:=by
     have:(s.ob id).xJ=some (k',m):=hO';rw[hO]at this;simpa[Obj.xJ]using this
    obtain⟨rfl,rfl⟩:=e3;have hlen:((rows.drop lo).take n).length=n:=by simp;omega
    rcases zaK n with h0|h0
    ·subst h0;exact⟨A,c,by simp,λ_=>by simp,λr hr=>by simp at hr,λad e=>⟨[],by simp,λj u hu=>by simp at hu,λi r j c hr=>by simp at hr⟩⟩
    ·obtain⟨b,hb,rfl⟩:=h3 h0;obtain⟨news,n1,n2,n3,n4⟩:=ym1 h hO hb (lo:=lo) (n:=n) hn;refine⟨_,c,by rw[hlen],λe=>(by cases e),n3,λad e=>?_⟩;cases e;exact⟨news,n1,n2,n4⟩
   ·cases hs
  ·cases hs
 ·cases hs;cases hv;exact⟨none,0,rfl,λ_=>rfl,λr hr=>by simp at hr,λad e=>by cases e⟩
 ·cases hs
theorem ys4(h:Repr g s a w blk){v:Value}{y:AV}{k idy:Nat}{new:List (List C)}(hv:RVs g s w blk v y)(hs:tZ s k y=some (idy,new)):
 s.objs idy≠.none/\∃Fn:Nat->Nat->Nat->Prop,ymP false w (Good g s.objs blk w) v k new Fn/\(∀i j x,Fn i j x->blk.sub idy x)/\(∀i j i' j' x,Fn i j x->Fn i' j' x->i=i'/\j=j'):=by
 unfold tZ at hs;split at hs
 ·rename_i id k' n;split at hs
  ·rename_i k2 ver rows hO;split at hs
   ·rename_i e;subst e;cases hs;refine⟨by rw[show s.objs idy=_ from hO];simp,?_⟩;obtain⟨m,hO',hn,hval⟩:=hv
    have e3:k2=k'/\rows.length=m:=by
     have:(s.ob idy).xJ=some (k',m):=hO';rw[hO]at this;simpa[Obj.xJ]using this
    obtain⟨rfl,rfl⟩:=e3;have hlen:(rows.take n).length=n:=by simp;omega
    rcases hval with⟨hb,rfl,A0,rfl⟩|⟨b,cap,arr,e,hb,rfl,h1,h2,h3,h4⟩
    ·exact⟨λ_ _=>noF,⟨A0,0,by simp,λ_=>by simp,λr hr=>by simp at hr,λad e=>⟨[],by simp,λj u hu=>by simp at hu,λi r j c hr=>by simp at hr⟩⟩,λ_ _ _ h=>h.elim,λ_ _ _ _ _ h=>h.elim⟩
    ·obtain⟨arr',e',r1,r2,r3,vals,Fs,r4,r5,r6,r7⟩:=h.tree hO hb;rw[h3]at r1;cases r1;have hle:n*k2<=rows.length*k2:=zaj _ hn;refine⟨Fs,⟨some ⟨b,0,none⟩,cap,by rw[hlen],λe=>(by cases e),λr hr=>r3 r (zaP hr),λad e=>?_⟩,λi j x hx=>(r4 i j x hx).1,r5⟩;cases e;refine⟨arr.toList.take (n*k2),by rw[hlen];simp;omega,λj u hu=>?_,λi r j c hr hc=>?_⟩
     ·rw[zas]at hu;split at hu
      ·rw[add_lit,zaR,cell_of w h3];simpa using hu
      ·cases hu
     ·rw[zas]at hr;split at hr
      ·rename_i hin;have hj:j<k2:=by rw[<-r3 r (zac hr)];exact(zab.1 hc).1
       have h5:(i+1)*k2<=n*k2:=zaj _ hin;rw[zaz,zaW]at h5;exact⟨_,by rw[zas,if_pos (by omega)];simpa using r6 i r hr j c hc,r7 i r hr j c hc⟩
      ·cases hr
   ·cases hs
  ·cases hs
 ·cases hs
end
end Go.Proofs.YtpiplmnecmkafaaGreat
namespace Go.Proofs.YtpiplmnecmkafaaGreat
open Go.RowKit
section
variable {P:Program} {g:Ghost} {o:Oper} {s:St} {a:Act} {w:World} {blk:Lay} {K:St->Prop}
theorem yfD(t ty e e':TypeId)(i:TypeInfo)(ht:P.underlying t=some (.slice e))(hi:P.info? e=some i)
 (q sLen sCap:Nat) (cur:Array Value) (hg:w.heap[q]?=some (.cells cur e' (0,0)))
 (ad:Addr) (m c:Nat) (news:List Value) (hl:news.length=m*i.size) (hnews:∀j u,news[j]?=some u->w.cell? (ad.add j)=some u) (h1:∀u∈news,u.oneCell'=true)
 (hroom:sLen+m<=sCap) (hfit:sLen*i.size+news.length<=cur.size):
 (Builtin.append_ #[t,t] ty #[.slice (some ⟨q,0,none⟩) sLen sCap,.slice (some ad) m c]).run P w=
  .ok (.slice (some ⟨q,0,none⟩) (sLen+m) sCap) (w.setRow q (cur.toList.take (sLen*i.size)++news++cur.toList.drop (sLen*i.size+news.length)).toArray):=by
 have hf:=run_firstCells_some (P:=P) w i.size m ad m c news hl hnews;have hst:=run_storeCells_at P q (sLen*i.size) e' news 0 cur w hg (by simpa using hfit) h1;simp only[zbN]at hst;simp[Builtin.append_,run_underlying ht,sizeOf,typeInfo,hi,Builtin.lenOf,hroom,hf,add_lit,hst]
theorem gZ(t ty e:TypeId)(i:TypeInfo)(ht:P.underlying t=some (.slice e))(hi:P.info? e=some i)(A:Option Addr)(n cap c:Nat)(hn:n<=cap):
 (Builtin.append_ #[t,t] ty #[.slice A n cap,.slice none 0 c]).run P w=.ok (.slice A n cap) w:=by
 cases A<;>simp[Builtin.append_,run_underlying ht,sizeOf,typeInfo,hi,Builtin.lenOf,Builtin.firstCells,hn,storeCells]
theorem yaE(t ty e:TypeId)(i:TypeInfo)(ht:P.underlying t=some (.slice e))(hi:P.info? e=some i)(A0:Option Addr)(ad:Addr)(c:Nat):
 (Builtin.append_ #[t,t] ty #[.slice A0 0 0,.slice (some ad) 0 c]).run P w=.ok (.slice A0 0 0) w:=by
 cases A0<;>simp[Builtin.append_,run_underlying ht,sizeOf,typeInfo,hi,Builtin.lenOf,Builtin.firstCells,loadCells,loadCellsFrom,storeCells]
theorem yrz{G:Nat->Prop}{k:Nat}{rows new:List (List C)}{olds news rest:List Value}(ho:olds.length=rows.length*k)(h1:∀(i:Nat) (r:List C) (j:Nat) (c:C),rows[i]?=some r->r[j]?=some c->∃u,olds[i*k+j]?=some u/\Rd w G u c)
 (h2:∀(i:Nat) (r:List C) (j:Nat) (c:C),new[i]?=some r->r[j]?=some c->∃u,news[i*k+j]?=some u/\Rd w G u c):
 ∀(i:Nat) (r:List C) (j:Nat) (c:C),(rows++new)[i]?=some r->r[j]?=some c->∃u,(olds++news++rest)[i*k+j]?=some u/\Rd w G u c:=by
 intro i r j c hr hc
 by_cases hi:i<rows.length
 ·rw[zat hi]at hr;obtain⟨u,hu,hru⟩:=h1 i r j c hr hc;have:i*k+j<olds.length:=(zab.1 hu).1;exact⟨u,by rw[zbQ,zat this];exact hu,hru⟩
 ·rw[zan (by omega)]at hr;obtain⟨u,hu,hru⟩:=h2 _ r j c hr hc;have hlt:(i-rows.length)*k+j<news.length:=(zab.1 hu).1
  have e1:i*k+j=olds.length+((i-rows.length)*k+j):=by
   rw[ho,Nat.sub_mul];have:rows.length*k<=i*k:=zaj _ (by omega);omega
  refine⟨u,?_,hru⟩;rw[e1,zbQ,zan (by omega),zcC,zat hlt];exact hu
theorem yqQ{G:Nat->Prop}{k:Nat}{rows new:List (List C)}{olds news:List Value}{z:Array Value}{cap:Nat}(ho:olds.length=rows.length*k)(hn:news.length=new.length*k)(hz:z.size=k)(hcap:rows.length+new.length<=cap)
 (hro:∀r,r∈rows->r.length=k) (hrn:∀r,r∈new->r.length=k)
 (h1:∀(i:Nat) (r:List C) (j:Nat) (c:C),rows[i]?=some r->r[j]?=some c->∃u,olds[i*k+j]?=some u/\Rd w G u c)
 (h2:∀(i:Nat) (r:List C) (j:Nat) (c:C),new[i]?=some r->r[j]?=some c->∃u,news[i*k+j]?=some u/\Rd w G u c):
 (olds.toArray++news.toArray++Builtin.zeroCells z (cap-(rows.length+new.length))).size=cap*k/\(rows++new).length*k<=(olds.toArray++news.toArray++Builtin.zeroCells z (cap-(rows.length+new.length))).size/\
 (∀r,r∈rows++new->r.length=k)/\
 ∀(i:Nat) (r:List C) (j:Nat) (c:C),(rows++new)[i]?=some r->r[j]?=some c->∃u,(olds.toArray++news.toArray++Builtin.zeroCells z (cap-(rows.length+new.length)))[i*k+j]?=some u/\Rd w G u c:=by
 have hsz:(olds.toArray++news.toArray++Builtin.zeroCells z (cap-(rows.length+new.length))).size=cap*k:=by
  simp only[zbR,zcx,size_zeroCells,hz,ho,hn,<-zaz]
  congr 1;omega
 refine⟨hsz,?_,λr hr=>?_,λi r j c hr hc=>?_⟩
 ·rw[hsz,zau];exact zaj _ hcap
 ·rcases zao.1 hr with h|h
  ·exact hro r h
  ·exact hrn r h
 ·obtain⟨u,hu,hru⟩:=yrz (rest:=(Builtin.zeroCells z (cap-(rows.length+new.length))).toList) ho h1 h2 i r j c hr hc;refine⟨u,?_,hru⟩;rw[<-hu,<-zbj];simp
theorem ylg{G G':Nat->Prop}{w':World}{k:Nat}{rows:List (List C)}{f:Nat->Option Value}(hm:∀u c,Rd w G u c->Rd w' G' u c)
 (h1:∀(i:Nat) (r:List C) (j:Nat) (c:C),rows[i]?=some r->r[j]?=some c->∃u,f (i*k+j)=some u/\Rd w G u c):
 ∀(i:Nat) (r:List C) (j:Nat) (c:C),rows[i]?=some r->r[j]?=some c->∃u,f (i*k+j)=some u/\Rd w' G' u c:=by
 intro i r j c hr hc;obtain⟨u,hu,hru⟩:=h1 i r j c hr hc;exact⟨u,hu,hm u c hru⟩
theorem yaN{t ty e:TypeId}{i:TypeInfo}{z:Value}(ht:P.underlying t=some (.slice e))(hi:P.info? e=some i)(hz:i.zero=some z)(hsz:z.cells.size=i.size)(hby:0<i.bytes)
 {v:Value} {hb:Option Nat} {n:Nat} {olds:List Value}
 (hv:(hb=none/\(∃A0,v=.slice A0 0 0)/\n=0/\olds=[])\/∃b cap arr e',hb=some b/\v=.slice (some ⟨b,0,none⟩) n cap/\w.heap[b]?=some (.cells arr e' (0,0))/\n<=cap/\cap<=maxLen/\cap*i.size<=arr.size/\olds=arr.toList.take (n*i.size))
 {A:Option Addr} {m c:Nat} (hA:A=none->m=0) {news:List Value} (hn0:A=none->news=[]) (hnl:news.length=m*i.size) (hnews:∀ad,A=some ad->∀j u,news[j]?=some u->w.cell? (ad.add j)=some u) (hone:∀u∈news,u.oneCell'=true)
 (hbig:(n+m)*i.bytes<=140737488355328):
 ∃ (r:Value) (w':World) (X:Nat->Prop),(Builtin.append_ #[t,t] ty #[v,.slice A m c]).run P w=.ok r w'/\Off X w w'/\(∀q,X q->hb=some q)/\
  ((hb=none/\(∃A0,r=.slice A0 0 0)/\n+m=0/\w'=w)\/∃b' cap' arr' e'',r=.slice (some ⟨b',0,none⟩) (n+m) cap'/\w'.heap[b']?=some (.cells arr' e'' (0,0))/\n+m<=cap'/\cap'<=maxLen/\cap'*i.size<=arr'.size/\
   (hb=some b'\/(w.heap.size<=b'/\b'<w'.heap.size))/\∀(q:Nat) (u:Value),(olds++news)[q]?=some u->arr'[q]?=some u):=by
 have hlen:n+m<=maxLen:=by
  have:=zbh (zbY (n+m) hby) hbig;unfold maxLen;omega
 rcases hv with⟨rfl,⟨A0,rfl⟩,rfl,rfl⟩|⟨b,cap,arr,e',rfl,rfl,h3,h1,h2,h4,rfl⟩
 ·rcases zaK m with h0|h0
  ·subst h0;refine⟨.slice A0 0 0,w,noF,?_,Off.refl _ _,λq hq=>hq.elim,.inl ⟨rfl,⟨A0,rfl⟩,rfl,rfl⟩⟩;cases A with
   |none=>exact gZ t ty e i ht hi A0 0 0 c (Nat.le_refl _)
   |some ad=>exact yaE t ty e i ht hi A0 ad c
  ·cases A with
   |none=>have:=hA rfl;omega
   | some ad=>
    simp only[zaR]at hlen hbig|-
    have hr:(Builtin.append_ #[t,t] ty #[.slice A0 0 0,.slice (some ad) m c]).run P w=.ok (.slice (some ⟨w.heap.size,0,none⟩) m (grownCap w m 0 e)) (w.drew.alloc (.cells (news.toArray++Builtin.zeroCells z.cells (grownCap w m 0 e-m)) e)):=by
     cases A0 with
     |none=>exact run_append_nil (P:=P) w t ty e i z ht hi hz ad m c news hnl (hnews ad rfl) h0 (by unfold maxLen at hlen;omega) (by omega)
     |some bd=>
      have:=run_append_grow (P:=P) w t ty e i z ht hi hz bd 0 0 [] (by simp) (by simp) ad m c news hnl (hnews ad rfl) (by simpa using h0) (by unfold maxLen at hlen;simp;omega) (growslice_fits (by simpa using h0) (by simpa using hbig));simpa using this
    have hcap:=grownCap_ge w m 0 e;have hcapm:=grownCap_le_maxLen w m 0 e hlen;have hnew:=heap_alloc_new w.drew (.cells (news.toArray++Builtin.zeroCells z.cells (grownCap w m 0 e-m)) e);refine⟨_,_,noF,hr,(Off.refl noF w).drew.alloc _,λq hq=>hq.elim,.inr ⟨w.heap.size,_,_,e,rfl,hnew,hcap,hcapm,?_,.inr ⟨Nat.le_refl _,by simp⟩,λq u hu=>?_⟩⟩
    ·simp only[zbR,zcx,size_zeroCells,hsz,hnl,<-zaz];exact zaj _ (by omega)
    ·rw[zcJ]at hu;have hq:=(zab.1 hu).1;rw[zaS (by simpa using hq)];simpa using hu
 ·have hle:n*i.size<=arr.size:=zbh (zaj _ h1) h4;have hol:(arr.toList.take (n*i.size)).length=n*i.size:=by simp;omega
  have hold:∀(q:Nat) (u:Value),(arr.toList.take (n*i.size))[q]?=some u->arr[q]?=some u:=by
   intro q u hu;rw[zas]at hu;split at hu
   ·simpa using hu
   ·cases hu
  cases A with
  |none=>
   have hm:=hA rfl;subst hm;have hr:=gZ (P:=P) (w:=w) t ty e i ht hi (some ⟨b,0,none⟩) n cap c h1;refine⟨_,_,noF,hr,Off.refl _ _,λq hq=>hq.elim,.inr ⟨b,cap,arr,e',rfl,h3,h1,h2,h4,.inl rfl,λq u hu=>?_⟩⟩;rw[hn0 rfl,zce]at hu;exact hold q u hu
  | some ad=>
   by_cases hroom:n+m<=cap
   ·have hfit0:(n+m)*i.size<=arr.size:=zbh (zaj _ hroom) h4;have hfit:n*i.size+news.length<=arr.size:=by rw[hnl,<-zaz];exact hfit0
    have hr:=yfD (P:=P) (w:=w) t ty e e' i ht hi b n cap arr h3 ad m c news hnl (hnews ad rfl) hone hroom hfit;have hset:=setRow_heap w b arr (arr.toList.take (n*i.size)++news++arr.toList.drop (n*i.size+news.length)).toArray e' (0,0) h3;have hsz2:(arr.toList.take (n*i.size)++news++arr.toList.drop (n*i.size+news.length)).toArray.size=arr.size:=by simp;omega
    refine⟨_,_,λq=>q=b,hr,ybn w b arr _ e' h3 hsz2,λq hq=>by rw[hq],.inr ⟨b,cap,_,e',rfl,hset,hroom,h2,by rw[hsz2];exact h4,.inl rfl,λq u hu=>?_⟩⟩;have hq:=(zab.1 hu).1;rw[zcM,zat hq];exact hu
   ·have hr:=run_append_grow (P:=P) w t ty e i z ht hi hz ⟨b,0,none⟩ n cap _ hol (λj u hu=>by
     rw[add_lit,zaR,cell_of w h3];exact hold j u hu) ad m c news hnl (hnews ad rfl) (by omega) (by unfold maxLen at hlen;omega) (growslice_fits (by omega) hbig)
    have hcap:=grownCap_ge w (n+m) cap e;have hcapm:=grownCap_le_maxLen w (n+m) cap e hlen;have hnew:=heap_alloc_new w.drew (.cells ((arr.toList.take (n*i.size)).toArray++news.toArray++Builtin.zeroCells z.cells (grownCap w (n+m) cap e-(n+m))) e);refine⟨_,_,noF,hr,(Off.refl noF w).drew.alloc _,λq hq=>hq.elim,.inr ⟨w.heap.size,_,_,e,rfl,hnew,hcap,hcapm,?_,.inr ⟨Nat.le_refl _,by simp⟩,λq u hu=>?_⟩⟩
    ·simp only[zbR,zcx,size_zeroCells,hsz,hnl,hol,<-zaz];exact zaj _ (by omega)
    ·have hq:=(zab.1 hu).1;rw[zaS (by simpa using hq)];rw[<-hu,<-zbj];simp
theorem Repr.append(h:Repr g s a w blk)(fl:Bool){t k:Nat}{ids:List Nat}{rows new:List (List C)}{olds news:List Value}{w':World}{X:Nat->Prop}{Fo Fn:Nat->Nat->Nat->Prop}{r:Value}{hb:Option Nat}
 (ht:t∈ids\/s.objs t=.none) (hol:olds.length=rows.length*k) (hro:∀r,r∈rows->r.length=k) (hrn:∀r,r∈new->r.length=k)
 (ho:∀(i:Nat) (r:List C) (j:Nat) (c:C),rows[i]?=some r->r[j]?=some c->∃u,olds[i*k+j]?=some u/\ybL fl w (Good g s.objs blk w) u c (Fo i j))
 (hn:∀(i:Nat) (r:List C) (j:Nat) (c:C),new[i]?=some r->r[j]?=some c->∃u,news[i*k+j]?=some u/\ybL fl w (Good g s.objs blk w) u c (Fn i j))
 (hbo:∀q,hb=some q->∃i0,i0∈ids/\s.objs i0≠.none/\blk.root i0=some q)
 (hFo:∀i j x,Fo i j x->∃i0,i0∈ids/\s.objs i0≠.none/\blk.sub i0 x) (hFn:∀i j x,Fn i j x->∃i0,i0∈ids/\s.objs i0≠.none/\blk.sub i0 x)
 (dOO:∀i j i' j' x,Fo i j x->Fo i' j' x->i=i'/\j=j') (dNN:∀i j i' j' x,Fn i j x->Fn i' j' x->i=i'/\j=j') (dON:∀i j i' j' x,Fo i j x->Fn i' j' x->False)
 (hoff:Off X w w') (hX:∀q,X q->hb=some q)
 (hview:(hb=none/\(∃A0,r=.slice A0 0 0)/\rows.length+new.length=0/\w'=w)\/∃b' cap' arr' e'',r=.slice (some ⟨b',0,none⟩) (rows.length+new.length) cap'/\w'.heap[b']?=some (.cells arr' e'' (0,0))/\rows.length+new.length<=cap'/\cap'<=maxLen/\cap'*k<=arr'.size/\
  (hb=some b'\/(w.heap.size<=b'/\b'<w'.heap.size))/\∀(q:Nat) (u:Value),(olds++news)[q]?=some u->arr'[q]?=some u):
 ∃L':Lay,Repr g ⟨λq=>(s.env q).kills ids,upd t (mkO fl k (rows++new)) (s.drops ids).objs⟩ a w' L'/\
  ∀G' (O':Nat->Obj),O' t=mkO fl k (rows++new)->RV w' G' O' L' r (.own t k (rows.length+new.length)):=by
 have hup:∀(o':Obj) j,upd t o' (s.drops ids).objs j=if j=t then o' else(s.drops ids).objs j:=λ_ _=>rfl
 have hsub:∀x,(∃i0,i0∈ids/\s.objs i0≠.none/\blk.sub i0 x)->x<w.heap.size/\¬X x/\∀q,hb=some q->x≠q:=by
  rintro x ⟨i0,m1,m2,m3⟩
  have hq:∀q,hb=some q->x≠q:=by
   rintro q hq rfl
   obtain⟨i1,n1,n2,n3⟩:=hbo x hq;have:=h.inj i0 i1 x m2 n2 (.inr m3) (.inl n3);subst this;exact h.apart i0 x m2 n3 m3
  exact⟨(h.new i0 x m2 (.inr m3)).2,λhx=>hq x (hX x hx) rfl,hq⟩
 have common:∀(root:Option Nat) (S:Nat->Prop),
  (∀x,(root=some x\/S x)->(∃i0,i0∈ids/\s.objs i0≠.none/\blk.fp i0 x)\/(w.heap.size<=x/\x<w'.heap.size))->(∀x,root=some x->¬S x)->
  (∀G' objs',Keeps w w' (Good g s.objs blk w) G' (lV s.objs ids) objs' blk (blk.upd t root S)->jL w' G' objs' (blk.upd t root S) S root (mkO fl k (rows++new)))->
  Repr g ⟨λq=>(s.env q).kills ids,upd t (mkO fl k (rows++new)) (s.drops ids).objs⟩ a w' (blk.upd t root S):=by
  intro root S horg hap hok;refine h.turn ids (λj=>j=t) hoff (λy hy=>?_) (λj hj=>?_) (λj y hj _ hf=>?_) (λj j' y hj hj' _ _ _ _=>hj.trans hj'.symm) (λj y hj _ hr'=>?_) (λj hj hm hl=>?_) (λj k' v' rows' hj hm hk=>?_) (λG' K j hj=>?_)
  ·obtain⟨i0,m1,m2,m3⟩:=hbo y (hX y hy);exact⟨i0,.inr m1,m2,.inl m3⟩
  ·exact⟨by rw[hup,if_neg hj,St.dO],by rw[Lay.xE,if_neg hj],by rw[Lay.sH,if_neg hj]⟩
  ·subst hj;rw[Lay.yfm,if_pos rfl]at hf;rcases horg y hf with⟨i0,m1,m2,m3⟩|h2
   ·exact .inl ⟨i0,.inr m1,m2,m3⟩
   ·exact .inr h2
  ·subst hj;rw[Lay.xE,if_pos rfl]at hr';rw[Lay.sH,if_pos rfl];exact hap y hr'
  ·subst hj;exact absurd (ht.resolve_left hm) hl
  ·subst hj;rw[ht.resolve_left hm]at hk;cases hk
  ·subst hj;rw[hup,if_pos rfl,Lay.xE,if_pos rfl,Lay.sH,if_pos rfl];exact hok _ _ K
 rcases hview with⟨hbn,⟨A0,rfl⟩,h0,rfl⟩|⟨b',cap',arr',e'',rfl,v1,v2,v3,v4,v5,v6⟩
 ·have hr0:rows=[]:=zaE (by omega);have hn0:new=[]:=zaE (by omega);subst hr0;subst hn0;refine⟨blk.upd t none noF,common none noF (λx hx=>hx.elim (λh=>by cases h) (λh=>h.elim)) (λx hx=>by cases hx) (λG' objs' K=>?_),λG' O' hO=>?_⟩
  ·cases fl
   ·exact .inl ⟨rfl,rfl⟩
   ·exact .inl ⟨rfl,rfl⟩
  ·exact⟨0,by rw[hO,yix];rfl,by simp,.inl ⟨by show(blk.upd _ _ _).root t=_;rw[Lay.xE,if_pos rfl],rfl,A0,rfl⟩⟩
 ·have hb'ne:∀x,(∃i0,i0∈ids/\s.objs i0≠.none/\blk.sub i0 x)->x≠b':=by
   rintro x hx rfl
   rcases v5 with h5|h5
   ·exact(hsub x hx).2.2 x h5 rfl
   ·have:=(hsub x hx).1;omega
  let Fs:Nat->Nat->Nat->Prop:=λi j=>if i<rows.length then Fo i j else Fn (i-rows.length) j
  have hFs:∀i j x,Fs i j x->∃i0,i0∈ids/\s.objs i0≠.none/\blk.sub i0 x:=by
   intro i j x hx;simp only[Fs]at hx;split at hx
   ·exact hFo _ _ _ hx
   ·exact hFn _ _ _ hx
  have cells:∀(i:Nat) (r:List C),(rows++new)[i]?=some r->∀(j:Nat) (c:C),r[j]?=some c->∃u,arr'[i*k+j]?=some u/\ybL fl w (Good g s.objs blk w) u c (Fs i j):=by
   intro i r hr j c hc
   by_cases hi:i<rows.length
   ·rw[zat hi]at hr;obtain⟨u,hu,hru⟩:=ho i r j c hr hc;have hq:=(zab.1 hu).1;exact⟨u,v6 _ u (by rw[zat hq];exact hu),by simp only[Fs];rw[if_pos hi];exact hru⟩
   ·rw[zan (by omega)]at hr;obtain⟨u,hu,hru⟩:=hn _ r j c hr hc
    have e1:i*k+j=olds.length+((i-rows.length)*k+j):=by
     rw[hol,Nat.sub_mul];have:rows.length*k<=i*k:=zaj _ (by omega);omega
    exact⟨u,v6 _ u (by rw[e1,zan (by omega),zcC];exact hu),by simp only[Fs];rw[if_neg hi];exact hru⟩
  have lens:∀r,r∈rows++new->r.length=k:=by
   intro r hr;rcases zao.1 hr with h1|h1
   ·exact hro r h1
   ·exact hrn r h1
  have hsz:(rows++new).length*k<=arr'.size:=zbh (zaj _ (by rw[zau];exact v2)) v4;refine⟨blk.upd t (some b') (λx=>∃i0,i0∈ids/\s.objs i0≠.none/\blk.sub i0 x),common (some b') _ (λx hx=>?_) (λx hx hs=>by cases hx;exact hb'ne _ hs rfl) (λG' objs' K=>?_),λG' O' hO=>?_⟩
  ·rcases hx with hx|⟨i0,m1,m2,m3⟩
   ·cases hx;rcases v5 with h5|h5
    ·obtain⟨i0,m1,m2,m3⟩:=hbo _ h5;exact .inl ⟨i0,m1,m2,.inl m3⟩
    ·exact .inr h5
   ·exact .inl ⟨i0,m1,m2,.inr m3⟩
  ·cases fl
   ·refine .inr ⟨b',arr',e'',rfl,v1,hsz,lens,λi j=>(arr'[i*k+j]?).getD undef,Fs,λi j x hx=>⟨hFs i j x hx,hb'ne x (hFs i j x hx)⟩,λi j i' j' x hx hx'=>?_,λi r hr j c hc=>?_,λi r hr j c hc=>?_⟩
    ·simp only[Fs]at hx hx';split at hx<;>split at hx'
     ·exact dOO _ _ _ _ x hx hx'
     ·exact(dON _ _ _ _ x hx hx').elim
     ·exact(dON _ _ _ _ x hx' hx).elim
     ·have:=dNN _ _ _ _ x hx hx';omega
    ·obtain⟨u,hu,_⟩:=cells i r hr j c hc;dsimp only;rw[hu];rfl
    ·obtain⟨u,hu,hru⟩:=cells i r hr j c hc;dsimp only;rw[hu];exact(ybL.ot hru).mono K.good K.cell (λ_ h=>h) λx hx=>hoff.block x (hsub x (hFs i j x hx)).1 (hsub x (hFs i j x hx)).2.1
   ·refine .inr ⟨b',arr',e'',rfl,v1,hsz,lens,λi r j c hr hc=>?_⟩;obtain⟨u,hu,hru⟩:=cells i r hr j c hc;exact⟨u,hu,Rd.mono hru K.good K.cell⟩
  ·exact⟨rows.length+new.length,by rw[hO,yix,zau],Nat.le_refl _,.inr ⟨b',cap',arr',e'',by show(blk.upd _ _ _).root t=_;rw[Lay.xE,if_pos rfl],rfl,v2,v3,v1,v4⟩⟩
theorem ytd{fl:Bool}{G:Nat->Prop}{k:Nat}{new:List (List C)}{news:List Value}{Fn:Nat->Nat->Nat->Prop}(n1:news.length=new.length*k)(hrn:∀r,r∈new->r.length=k)
 (n3:∀(i:Nat) (r:List C) (j:Nat) (c:C),new[i]?=some r->r[j]?=some c->∃u,news[i*k+j]?=some u/\ybL fl w G u c (Fn i j)):∀u∈news,u.oneCell'=true:=by
 intro u hu;obtain⟨j,hj⟩:=zam hu;have hj1:j<new.length*k:=by rw[<-n1];exact(zab.1 hj).1
 have hk : 0 < k:=by rcases zaK k with e0|e0;·rw[e0]at hj1;omega
                     ·exact e0
 have hq:j/k<new.length:=zcR (by rw[zcp];exact hj1);have hm:j%k<(new[j/k]).length:=by rw[hrn _ (zbx hq)];exact zdo _ hk
 obtain⟨u',hu',hru⟩:=n3 _ _ (j%k) _ (zaa hq) (zaa hm);rw[show j/k*k+j%k=j from by rw[zcp];exact Nat.div_add_mod j k,hj]at hu';cases hu';exact hru.ot.one
theorem ymP.news{fl:Bool}{G:Nat->Prop}{v:Value}{k:Nat}{new:List (List C)}{Fn:Nat->Nat->Nat->Prop}(h:ymP fl w G v k new Fn):
 ∃A c,∃news:List Value,v=.slice A new.length c/\(A=none->new.length=0)/\(A=none->news=[])/\news.length=new.length*k/\(∀ad,A=some ad->∀j u,news[j]?=some u->w.cell? (ad.add j)=some u)/\(∀u∈news,u.oneCell'=true)/\(∀r,r∈new->r.length=k)/\
  ∀(i:Nat) (r:List C) (j:Nat) (c:C),new[i]?=some r->r[j]?=some c->∃u,news[i*k+j]?=some u/\ybL fl w G u c (Fn i j):=by
 obtain⟨A,c,hv,h0,hrn,hA⟩:=h;cases A with
 |none=>
  have:=h0 rfl;subst this;exact⟨none,c,[],hv,λ_=>rfl,λ_=>rfl,by simp,λad e=>(by cases e),by simp,hrn,λi r j c hr=>by simp at hr⟩
 |some ad=>
  obtain⟨news,n1,n2,n3⟩:=hA ad rfl;exact⟨some ad,c,news,hv,λe=>(by cases e),λe=>(by cases e),n1,λad' e=>(by cases e;exact n2),ytd n1 hrn n3,hrn,n3⟩
theorem ydG(h:Repr g s a w blk){id k n:Nat}{v:Value}(hv:RVs g s w blk v (.own id k n)){rows:List (List C)}(fl:Bool)(hO:s.ob id=.row k rows\/(fl=false/\∃ver,s.ob id=.tr k ver rows))(hn:n=rows.length):
 ∃(hb:Option Nat) (olds:List Value) (Fo:Nat->Nat->Nat->Prop),((hb=none/\(∃A0,v=.slice A0 0 0)/\n=0/\olds=[])\/∃b cap arr e',hb=some b/\v=.slice (some ⟨b,0,none⟩) n cap/\w.heap[b]?=some (.cells arr e' (0,0))/\n<=cap/\cap<=maxLen/\cap*k<=arr.size/\olds=arr.toList.take (n*k))/\
  olds.length=rows.length*k/\(∀r,r∈rows->r.length=k)/\(∀(i:Nat) (r:List C) (j:Nat) (c:C),rows[i]?=some r->r[j]?=some c->∃u,olds[i*k+j]?=some u/\ybL fl w (Good g s.objs blk w) u c (Fo i j))/\
  (∀q,hb=some q->blk.root id=some q)/\(∀i j x,Fo i j x->blk.sub id x)/\(∀i j i' j' x,Fo i j x->Fo i' j' x->i=i'/\j=j'):=by
 subst hn;obtain⟨m,hdim,hn,hval⟩:=hv;rcases hval with⟨hb,h0,A0,rfl⟩|⟨b,cap,arr,e,hb,rfl,h1,h2,h3,h4⟩
 ·have:rows=[]:=zaE h0;subst this;exact⟨none,[],λ_ _=>noF,.inl ⟨rfl,⟨A0,rfl⟩,rfl,rfl⟩,by simp,by simp,λi r j c hr=>by simp at hr,λq hq=>(by cases hq),λ_ _ _ h=>h.elim,λ_ _ _ _ _ h=>h.elim⟩
 ·have hle:rows.length*k<=arr.size:=zbh (zaj _ h1) h4
  have get:∀(i:Nat) (r:List C) (j:Nat) (c:C) (u:Value),rows[i]?=some r->r[j]?=some c->r.length=k->arr[i*k+j]?=some u->(arr.toList.take (rows.length*k))[i*k+j]?=some u:=by
   intro i r j c u hr hc hk hu;have hi2:i<rows.length:=(zab.1 hr).1;have hj2:j<k:=by rw[<-hk];exact(zab.1 hc).1
   have h5:(i+1)*k<=rows.length*k:=zaj _ hi2;rw[zaz,zaW]at h5;rw[zas,if_pos (by omega)];simpa using hu
  rcases hO with hO|⟨hfl,ver,hO⟩
  ·obtain⟨arr',e',r1,r2,r3,r4⟩:=h.row hO hb;rw[h3]at r1;cases r1;refine⟨some b,_,λ_ _=>noF,.inr ⟨b,cap,arr,e,rfl,rfl,h3,h1,h2,h4,rfl⟩,by simp;omega,r3,λi r j c hr hc=>?_,λq hq=>by cases hq;exact hb,λ_ _ _ h=>h.elim,λ_ _ _ _ _ h=>h.elim⟩;obtain⟨u,hu,hru⟩:=r4 i r j c hr hc;exact⟨u,get i r j c u hr hc (r3 r (zac hr)) hu,.yvF hru⟩
  ·subst hfl;obtain⟨arr',e',r1,r2,r3,vals,Fs,r4,r5,r6,r7⟩:=h.tree hO hb;rw[h3]at r1;cases r1;refine⟨some b,_,Fs,.inr ⟨b,cap,arr,e,rfl,rfl,h3,h1,h2,h4,rfl⟩,by simp;omega,r3,λi r j c hr hc=>?_,λq hq=>by cases hq;exact hb,λi j x hx=>(r4 i j x hx).1,r5⟩;exact⟨_,get i r j c _ hr hc (r3 r (zac hr)) (r6 i r hr j c hc),r7 i r hr j c hc⟩
theorem yht(s:St)(id:Nat)(o:Obj):(⟨λq=>(s.env q).kills [id],upd id o (s.drops [id]).objs⟩:St)=s.renew id o:=by
 unfold St.renew
 congr 1
 funext i
 unfold upd;split
 ·rfl
 ·rename_i hi
  show(s.drop id).objs i=_
  unfold St.drop St.renew upd;simp[hi]
theorem yjM(s:St)(id idy:Nat)(hne:id≠idy)(o:Obj):(⟨λq=>(s.env q).kills [idy,id],upd id o (s.drops [idy,id]).objs⟩:St)=(s.drop idy).renew id o:=by
 unfold St.renew
 congr 1
 funext i
 unfold upd;split
 ·rfl
 ·rename_i hi
  show((s.drop idy).drop id).objs i=_
  conv=>lhs;unfold St.drop St.renew upd
  simp[hi,St.drop,St.renew,upd]
theorem Repr.yw7(h:Repr g s a w blk){id k0 ver:Nat}{rows:List (List C)}(hO:s.ob id=.tr k0 ver rows){i:Int}{j k n:Nat}{v:Value}(hv:RVs g s w blk v (.sub id ver i j k n)){c:C}(hc:cellAt rows i.toNat j=some c)(fl:Bool){rs:List (List C)}(hcs:c=(if fl then .ow k rs else .ot k rs)){d:Nat}(hd:(s.ob d).isNone=true):
 ∃L':Lay,Repr g ⟨s.env,upd d (mkO fl k rs) (upd id (.tr k0 (ver+1) (setAt rows i.toNat j .jk)) s.objs)⟩ a w L'/\∀G' (O':Nat->Obj),O' d=mkO fl k rs->RV w G' O' L' v (.own d k rs.length):=by
 obtain⟨q,r,c',A,cap,F,e1,e2,e3,e4,e5,rfl,e6,e7,e8,e9⟩:=h.sub0 hO hv;obtain⟨r',f1,f2⟩:=aZ hc;rw[e3]at f1;cases f1;rw[e4]at f2;cases f2;have hO':s.objs id=.tr k0 ver rows:=hO;have hlive:s.objs id≠.none:=by rw[hO'];simp
 have hd':s.objs d=.none:=kR hd;have hne:d≠id:=by rintro rfl;exact hlive hd'
 obtain⟨arr0,e0,t1,t2,t3,vals0,Fs0,t4,t5,t6,t7⟩:=h.tree hO e1;have hrl:r.length=k0:=t3 r (zac e3);have hjr:j<r.length:=(zab.1 e4).1;have hir:i.toNat<rows.length:=(zab.1 e3).1;have hgr:rows.getD i.toNat []=r:=by simp[List.getD,e3]
 have hcell:=t6 _ _ e3 _ _ e4;rw[cell_of w t1,hcell]at e2;have hot:=t7 _ _ e3 _ _ e4;rw[Option.some.inj e2]at hot
 -- the block of the slice,and what its cells own
 obtain⟨root,S,hrS,hobj,hrv⟩:∃(root:Option Nat) (S:Nat->Prop),(∀x,(root=some x\/S x)->Fs0 i.toNat j x)/\
  (∀G' (O':Nat->Obj) (bl:Nat->Option Nat),(∀b,Good g s.objs blk w b->G' b)->(∀x,root=some x->¬S x)/\jL w G' O' bl S root (mkO fl k rs))/\
  (∀G' (O':Nat->Obj) (bl:Nat->Option Nat),O' d=mkO fl k rs->bl d=root->RV w G' O' bl (.slice A n cap) (.own d k rs.length)):=by
  have hnl:n=rs.length:=by subst hcs;cases fl<;>simp[C.sz]at e5<;>omega
  cases fl with
  | true=>
   simp only[if_true]at hcs;subst hcs;cases hot with
   |sh h=>cases h
   |ow0=>
    exact⟨none,noF,λx hx=>hx.elim (λh=>by cases h) (λh=>h.elim),λG' O' bl _=>⟨λx hx=>(by cases hx),.inl ⟨rfl,rfl⟩⟩,λG' O' bl hO hb=>⟨0,by rw[hO];rfl,Nat.le_refl _,.inl ⟨hb,rfl,_,rfl⟩⟩⟩
   |ow vals h1 h2 h3 h4 h5 h6 h7 h8 h9=>
    rename_i b arr e;subst h2;refine⟨some b,noF,λx hx=>hx.elim (λh=>by cases h;exact h7) (λh=>h.elim),λG' O' bl hG=>⟨λx hx h=>h,.inr ⟨b,arr,e,rfl,h1,zbh (zaj _ h3) h5,h6,λi r j c hr hc=>⟨_,h8 i r hr j c hc,(h9 i r hr j c hc).mono hG (λ_ _ _ h=>h)⟩⟩⟩,λG' O' bl hO hb=>?_⟩;exact⟨rs.length,by rw[hO];rfl,Nat.le_refl _,.inr ⟨b,cap,arr,e,hb,rfl,h3,h4,h1,h5⟩⟩
  | false=>
   simp only[if_false,zbI]at hcs;subst hcs;cases hot with
   |sh h=>cases h
   |ot0=>
    exact⟨none,noF,λx hx=>hx.elim (λh=>by cases h) (λh=>h.elim),λG' O' bl _=>⟨λx hx=>(by cases hx),.inl ⟨rfl,rfl⟩⟩,λG' O' bl hO hb=>⟨0,by rw[hO];rfl,Nat.le_refl _,.inl ⟨hb,rfl,_,rfl⟩⟩⟩
   | ot vals Fs h1 h2 h3 h4 h5 h6 h7 h8 h9 h10 h11=>
    rename_i b arr e;subst h2;refine⟨some b,λx=>∃i j,Fs i j x,λx hx=>?_,λG' O' bl hG=>⟨λx hx ⟨i,j,hs⟩=>?_,.inr ⟨b,arr,e,rfl,h1,zbh (zaj _ h3) h5,h6,vals,Fs,λi j x hx=>⟨⟨i,j,hx⟩,(h8 i j x hx).2⟩,h9,h10,λi r hr j c hc=>(h11 i r hr j c hc).mono hG (λ_ _ _ h=>h) (λ_ h=>h) (λ_ _=>rfl)⟩⟩,λG' O' bl hO hb=>?_⟩
    ·rcases hx with hx|⟨i,j,hs⟩
     ·cases hx;exact h7
     ·exact(h8 i j x hs).1
    ·cases hx;exact(h8 i j _ hs).2 rfl
    ·exact⟨rs.length,by rw[hO];rfl,Nat.le_refl _,.inr ⟨b,cap,arr,e,hb,rfl,h3,h4,h1,h5⟩⟩
 have hup:∀x,upd d (mkO fl k rs) (upd id (.tr k0 (ver+1) (setAt rows i.toNat j .jk)) s.objs) x=if x=d then mkO fl k rs else if x=id then .tr k0 (ver+1) (setAt rows i.toNat j .jk)else s.objs x:=λ_=>rfl
 let L':Lay:=(blk.upd id (blk.root id) (λx=>blk.sub id x/\¬Fs0 i.toNat j x)).upd d root S
 have Ld:L'.root d=root/\L'.sub d=S:=⟨by simp only[L'];rw[Lay.xE,if_pos rfl],by simp only[L'];rw[Lay.sH,if_pos rfl]⟩;have Li:L'.root id=blk.root id/\L'.sub id=λx=>blk.sub id x/\¬Fs0 i.toNat j x:=⟨by simp only[L'];rw[Lay.xE,if_neg (Ne.symm hne),Lay.xE,if_pos rfl],by simp only[L'];rw[Lay.sH,if_neg (Ne.symm hne),Lay.sH,if_pos rfl]⟩;have hFsub:∀x,Fs0 i.toNat j x->blk.sub id x:=λx hx=>(t4 _ _ x hx).1;refine⟨L',h.turn [] (λx=>x=d\/x=id) (Off.refl noF w) (λx hx=>hx.elim) (λx hx=>?_) (λx y hx _ hf=>?_) (λx y z hx hy hlx hly hfx hfy=>?_) (λx y hx _ hr=>?_) (λx hx _ hl=>?_) (λx k' v' rows' hx _ hk=>?_) (λG' K x hx=>?_),λG' O' hO=>hrv G' O' L' hO Ld.1⟩
 ·have h1:x≠d:=λe=>hx (.inl e);have h2:x≠id:=λe=>hx (.inr e);refine⟨by rw[hup,if_neg h1,if_neg h2];simp[Obj.jM],?_,?_⟩
  ·simp only[L'];rw[Lay.xE,if_neg h1,Lay.xE,if_neg h2]
  ·simp only[L'];rw[Lay.sH,if_neg h1,Lay.sH,if_neg h2]
 ·refine .inl ⟨id,.inl (.inr rfl),hlive,?_⟩;rcases hx with rfl|rfl
  ·unfold Lay.fp at hf;rw[Ld.1,Ld.2]at hf;exact .inr (hFsub y (hrS y hf))
  ·unfold Lay.fp at hf;rw[Li.1,Li.2]at hf;rcases hf with hf|hf
   ·exact .inl hf
   ·exact .inr hf.1
 ·have cross:L'.fp d z->L'.fp id z->False:=by
   intro h1 h2;unfold Lay.fp at h1 h2;rw[Ld.1,Ld.2]at h1;rw[Li.1,Li.2]at h2;have hz:=hrS z h1;rcases h2 with h2|h2
   ·exact h.apart id z hlive h2 (hFsub z hz)
   ·exact h2.2 hz
  rcases hx with rfl|rfl<;>rcases hy with rfl|rfl
  ·rfl
  ·exact(cross hfx hfy).elim
  ·exact(cross hfy hfx).elim
  ·rfl
 ·rcases hx with rfl|rfl
  ·rw[Ld.1]at hr;rw[Ld.2];exact(hobj (Good g s.objs blk w) s.objs blk (λ_ h=>h)).1 y hr
  ·rw[Li.1]at hr;rw[Li.2]
   exactλhs=>h.apart x y hlive hr hs.1
 ·rcases hx with rfl|rfl
  ·exact absurd hd' hl
  ·rw[hup,if_neg (Ne.symm hne),if_pos rfl,hO',Li.1];exact⟨⟨rfl,by simp[setAt],by omega,λe=>by omega⟩,rfl⟩
 ·rcases hx with rfl|rfl
  ·rw[hd']at hk;cases hk
  ·rw[hup,if_neg (Ne.symm hne),if_pos rfl];rw[hO']at hk;cases hk;intro e;cases e
 ·rcases hx with rfl|rfl
  ·rw[hup,if_pos rfl,Ld.1,Ld.2];exact(hobj _ _ _ K.good).2
  ·rw [hup,if_neg (Ne.symm hne),if_pos rfl,Li.1,Li.2,e1];refine .inr ⟨q,arr0,e0,rfl,t1,by simpa[setAt]using t2,λr2 hr2=>?_,vals0,λi2 j2 x=>Fs0 i2 j2 x/\¬(i2=i.toNat/\j2=j),λi2 j2 x hx=>⟨⟨(t4 _ _ x hx.1).1,λhs=>hx.2 (t5 _ _ _ _ x hx.1 hs)⟩,(t4 _ _ x hx.1).2⟩,λi2 j2 i3 j3 x hx hx'=>t5 _ _ _ _ x hx.1 hx'.1,λi2 r2 hr2 j2 c2 hc2=>?_,λi2 r2 hr2 j2 c2 hc2=>?_⟩
   ·rcases zaJ hr2 with h5|h5
    ·exact t3 r2 h5
    ·rw[h5,zbB,hgr];exact hrl
   ·unfold setAt at hr2;rw[zaI]at hr2
    by_cases e2:i.toNat=i2
    ·subst e2;rw[if_pos rfl,if_pos hir]at hr2;cases hr2;rw[hgr,zaI]at hc2
     by_cases e3':j=j2
     ·subst e3';exact hcell
     ·rw[if_neg e3']at hc2;exact t6 _ _ e3 _ _ hc2
    ·rw[if_neg e2]at hr2;exact t6 _ _ hr2 _ _ hc2
   ·have other:∀{i2 j2:Nat} {r2:List C} {c2:C},rows[i2]?=some r2->r2[j2]?=some c2->¬(i2=i.toNat/\j2=j)->OT w G' (vals0 i2 j2) c2 (λx=>Fs0 i2 j2 x/\¬(i2=i.toNat/\j2=j)):=by
     intro i2 j2 r2 c2 hr2 hc2 hne;exact(t7 _ _ hr2 _ _ hc2).mono K.good K.cell (λx hx=>⟨hx,hne⟩) λy hy=>rfl
    unfold setAt at hr2;rw[zaI]at hr2
    by_cases e2':i.toNat=i2
    ·subst e2';rw[if_pos rfl,if_pos hir]at hr2;cases hr2;rw[hgr,zaI]at hc2
     by_cases e3':j=j2
     ·subst e3';rw[if_pos rfl,if_pos hjr]at hc2;cases hc2;have:=t7 _ _ e3 _ _ e4;exact .jk this.one this.cells
     ·rw[if_neg e3']at hc2;exact other e3 hc2 (λh=>e3' h.2.symm)
    ·rw[if_neg e2']at hr2;exact other hr2 hc2 (λh=>e2' h.1.symm)
theorem yyv (h:Repr g s a w blk) (hd:∀i,o.dst=some i->i<g.N) {t e:TypeId} {i:TypeInfo} {z:Value} {p q:Operand} {xp xq:X} (ho:o.op=.call {callee:=.builtin .append,args:=#[p,q],argTypes:=#[t,t]})
 (ht:P.underlying t=some (.slice e)) (hi:P.info? e=some i) (hz:i.zero=some z) (hsz:z.cells.size=i.size) (hby:0<i.bytes)
 (hp:cxt P t p=some xp) (hq:cxt P t q=some xq) (hK:yb2 i.size i.bytes s o.dst (s.ev xp) (s.ev xq) K):kC P g o a w K:=by
 have ep:=h.evt hp;have eq:=h.evt hq
 have run:∀r w',(Builtin.append_ #[t,t] o.type #[a.eval p,a.eval q]).run P w=.ok r w'->(execOp a.eval o).run P w=.ok (.value r) w':=by
  intro r w' hr;simp[execOp,ho,resolve,invoke,builtin,hr]
 unfold yb2 at hK;split at hK
 ·rename_i new hnew;obtain⟨A,c,news,hA,n0,n0',n1,n2,n3,n4,n5⟩:=(src_ok h eq hnew).news;rw[hA]at run;generalize s.ev xp=vp at hK ep;generalize a.eval p=v at ep run;split at hK
  ·-- nil
   rename_i kn;obtain⟨hb,hK⟩:=hK;cases ep;unfold newP at hK;split at hK
   case h_2=>exact hK.elim
   rename_i d hdst;obtain⟨hd0,hK⟩:=hK;obtain⟨r,w',X,v1,v2,v3,v4⟩:=yaN (w:=w) (ty:=o.type) ht hi hz hsz hby (v:=.slice none 0 0) (hb:=none) (n:=0) (olds:=[]) (.inl ⟨rfl,⟨none,rfl⟩,rfl,rfl⟩) n0 n0' n1 n2 n3 (by rw[zaR];exact hb) (c:=c);obtain⟨L',hre,hrv⟩:=h.append true (t:=d) (ids:=[]) (rows:=[]) (olds:=[]) (Fo:=λ_ _=>noF) (Fn:=λ_ _=>noF) (.inr (kR hd0)) (by simp) (by simp) n4 (λi r j c hr=>by simp at hr) n5 (λq hq=>by cases hq) (λ_ _ _ h=>h.elim) (λ_ _ _ h=>h.elim) (λ_ _ _ _ _ h=>h.elim) (λ_ _ _ _ _ h=>h.elim) (λ_ _ _ _ _ h=>h.elim) v2 v3 (by simpa using v4);refine⟨_,_,run _ _ v1,_,L',hK,?_⟩
   have hput:=hre.put (d:=some d) (v:=r) (x:=.own d i.size new.length) (by rw[<-hdst];exact hd) (by
    have:=hrv (Good g (upd d (mkO true i.size ([]++new)) (s.drops []).objs) L' w') (upd d (mkO true i.size ([]++new)) (s.drops []).objs) (by simp[upd]);simp only[zcJ,zbv,zaR]at this|-;exact this)
   rw[hdst];exact hput
  ·-- a slice without room behind it
   rename_i k' rows;obtain⟨rfl,h0',hb,hK⟩:=hK;obtain⟨B,n,rfl,hrd⟩:=ep;rcases zaK new.length with hz0|h0
   ·have hr0:rows.length=0:=by omega
    have hn0:n=0:=by cases hrd with|sl vals e1 e2 e3 e4 e5 e6 e7=>omega
    subst hn0;have hnn:new=[]:=zaE hz0;have hrr:rows=[]:=zaE hr0;subst hnn;subst hrr
    have hr:(Builtin.append_ #[t,t] o.type #[.slice B 0 0,.slice A 0 c]).run P w=.ok (.slice B 0 0) w:=by
     cases A with
     |none=>exact gZ t o.type e i ht hi B 0 0 c (Nat.le_refl _)
     |some ad=>exact yaE t o.type e i ht hi B ad c
    unfold newP at hK;split at hK
    ·rename_i d hdst;obtain⟨hd0,hK⟩:=hK;have hv:=h.virt (d:=d) (k:=i.size) true (kR hd0);refine⟨_,_,run _ _ hr,_,blk.upd d none noF,hK,?_⟩;have hput:=hv.put (d:=some d) (v:=.slice B 0 0) (x:=.own d i.size 0) (by rw[<-hdst];exact hd) ⟨0,by simp[upd,mkO,Obj.xJ],Nat.le_refl _,.inl ⟨by show(blk.upd _ _ _).root d=_;rw[Lay.xE,if_pos rfl],rfl,B,rfl⟩⟩;rw[hdst];exact hput
    ·exact hK.elim
   cases A with
   |none=>have:=n0 rfl;omega
   | some ad=>
    have hrows:rows.length=n/\(∀r,r∈rows->r.length=i.size)/\n<=maxLen:=by
     cases hrd with
     |sl vals e1 e2 e3 e4 e5 e6 e7=>exact⟨e1,e4,by omega⟩
    obtain⟨hrl,hro,hnm⟩:=hrows
    have hlen:rows.length+new.length<=maxLen:=by
     have:=zbh (zbY (rows.length+new.length) hby) hb;unfold maxLen;omega
    have hold:∃(bd:Addr) (olds:List Value),(B=some bd\/rows=[])/\olds.length=rows.length*i.size/\(∀j u,olds[j]?=some u->w.cell? (bd.add j)=some u)/\
     ∀(i2:Nat) (r:List C) (j:Nat) (c:C),rows[i2]?=some r->r[j]?=some c->∃u,olds[i2*i.size+j]?=some u/\Rd w (Good g s.objs blk w) u c:=by
     cases B with
     | none=>
      have:rows=[]:=by
       cases hrd with
       |sl vals e1 e2 e3 e4 e5 e6 e7=>
        have:¬0<n:=λhl=>by simpa using e5 hl
        exact zaE (by omega)
      subst this;exact⟨ad,[],.inr rfl,by simp,by simp,λi2 r j c hr=>by simp at hr⟩
     |some bd=>
      obtain⟨olds,o1,o2,o3⟩:=yqg hrd;exact⟨bd,olds,.inl rfl,by rw[hrl];exact o1,o2,o3⟩
    obtain⟨bd,olds,hB,o1,o2,o3⟩:=hold;have hcap:=grownCap_ge w (rows.length+new.length) n e;have hcapm:=grownCap_le_maxLen w (rows.length+new.length) n e hlen;obtain⟨a1,a2,a3,a4⟩:=yqQ (w:=w) (G:=Good g s.objs blk w) (rows:=rows) (olds:=olds) (cap:=grownCap w (rows.length+new.length) n e) (z:=z.cells) o1 n1 hsz hcap hro n4 o3 n5
    have hr:(Builtin.append_ #[t,t] o.type #[.slice B n n,.slice (some ad) new.length c]).run P w=.ok (.slice (some ⟨w.heap.size,0,none⟩) (rows.length+new.length) (grownCap w (rows.length+new.length) n e))
     (w.drew.alloc (.cells (olds.toArray++news.toArray++Builtin.zeroCells z.cells (grownCap w (rows.length+new.length) n e-(rows.length+new.length))) e)):=by
     subst hrl;rcases hB with rfl|rfl
     ·exact run_append_grow (P:=P) w t o.type e i z ht hi hz bd rows.length rows.length olds o1 o2 ad new.length c news n1 (n2 ad rfl) (by omega) (by unfold maxLen at hlen;omega) (growslice_fits (by omega) hb)
     ·cases B with
      |none=>
       have:=run_append_nil (P:=P) w t o.type e i z ht hi hz ad new.length c news n1 (n2 ad rfl) h0 (by unfold maxLen at hlen;simp at hlen;omega) (by simp at hb;omega);have ho:olds=[]:=zaE (by simpa using o1);subst ho;simpa using this
      |some bd'=>
       have ho:olds=[]:=zaE (by simpa using o1);subst ho;exact run_append_grow (P:=P) w t o.type e i z ht hi hz bd' 0 0 [] (by simp) (by simp) ad new.length c news n1 (n2 ad rfl) (by simpa using h0) (by unfold maxLen at hlen;simp at hlen|-;omega) (growslice_fits (by simpa using h0) hb)
    refine yar h.drew hd (e:=e) (run _ _ hr) ?_ ?_ hK
    ·intro w' G' O' blk' KK hh;exact .inr ⟨_,_,_,rfl,hh,a2,a3,ylg (w:=w) (G:=Good g s.objs blk w) (λu c hr=>(Rd.mono (w':=w.drew) hr (λ_ h=>h) (λ_ _ _ h=>h)).mono KK.good KK.cell) a4⟩
    ·intro d G' O' blk' hO hb' hh;exact⟨rows.length+new.length,by rw[hO];simp[Obj.xJ],Nat.le_refl _,.inr ⟨_,_,_,_,hb',rfl,hcap,hcapm,hh,by rw[a1];exact Nat.le_refl _⟩⟩
  ·-- a row of the call's own
   rename_i id k' n;split at hK
   ·rename_i k2 rows hO;obtain⟨rfl,rfl,hb,hK⟩:=hK
    have hk2:k2=i.size:=by
     obtain⟨m,hdim,_⟩:=ep;have:(s.ob id).xJ=some (i.size,m):=hdim;rw[hO]at this;simp[Obj.xJ]at this;exact this.1
    subst hk2;obtain⟨hb0,olds,Fo,u1,u2,u3,u4,u5,u6,u7⟩:=ydG h ep true (.inl hO) rfl;have hlive:s.objs id≠.none:=by rw[show s.objs id=_ from hO];simp
    obtain⟨r,w',X,v1,v2,v3,v4⟩:=yaN (w:=w) (ty:=o.type) ht hi hz hsz hby u1 n0 n0' n1 n2 n3 hb (c:=c);obtain⟨L',hre,hrv⟩:=h.append true (t:=id) (ids:=[id]) (Fo:=λ_ _=>noF) (Fn:=λ_ _=>noF) (.inl (by simp)) u2 u3 n4 u4 n5 (λq hq=>⟨id,by simp,hlive,u5 q hq⟩) (λ_ _ _ h=>h.elim) (λ_ _ _ h=>h.elim) (λ_ _ _ _ _ h=>h.elim) (λ_ _ _ _ _ h=>h.elim) (λ_ _ _ _ _ h=>h.elim) v2 v3 v4;rw[yht]at hre;refine⟨_,_,run _ _ v1,_,L',hK,hre.put hd (hrv _ _ ?_)⟩;simp[St.renew,upd,mkO]
   ·rename_i k2 ver rows hO;obtain⟨rfl,rfl,hb,hK⟩:=hK
    have hk2:k2=i.size:=by
     obtain⟨m,hdim,_⟩:=ep;have:(s.ob id).xJ=some (i.size,m):=hdim;rw[hO]at this;simp[Obj.xJ]at this;exact this.1
    subst hk2;obtain⟨hb0,olds,Fo,u1,u2,u3,u4,u5,u6,u7⟩:=ydG h ep false (.inr ⟨rfl,ver,hO⟩) rfl;have hlive:s.objs id≠.none:=by rw[show s.objs id=_ from hO];simp
    obtain⟨r,w',X,v1,v2,v3,v4⟩:=yaN (w:=w) (ty:=o.type) ht hi hz hsz hby u1 n0 n0' n1 n2 n3 hb (c:=c);obtain⟨L',hre,hrv⟩:=h.append false (t:=id) (ids:=[id]) (Fo:=Fo) (Fn:=λ_ _=>noF) (.inl (by simp)) u2 u3 n4 u4 (λi r j c hr hc=>let⟨u,hu,hru⟩:=n5 i r j c hr hc;⟨u,hu,hru.ot⟩) (λq hq=>⟨id,by simp,hlive,u5 q hq⟩) (λi j x hx=>⟨id,by simp,hlive,u6 i j x hx⟩) (λ_ _ _ h=>h.elim) u7 (λ_ _ _ _ _ h=>h.elim) (λ_ _ _ _ _ _ h=>h.elim) v2 v3 v4;rw[yht]at hre;refine⟨_,_,run _ _ v1,_,L',hK,hre.put hd (hrv _ _ ?_)⟩;simp[St.renew,upd,mkO]
   ·exact hK.elim
  ·-- a slice in a cell of a tree
   rename_i id ver i' j k' n;split at hK
   case h_2=>exact hK.elim
   rename_i k0 ver' rows hO;obtain⟨rfl,hK⟩:=hK
   have fin:∀(fl:Bool) (rs:List (List C)) (cc:C),cellAt rows i'.toNat j=some cc->cc=(if fl then .ow i.size rs else .ot i.size rs)->k'=i.size->(rs.length+new.length)*i.bytes<=140737488355328->∀d,o.dst=some d->(s.ob d).isNone=true->
    K (((s.jD id (.tr k0 (ver'+1) (setAt rows i'.toNat j .jk))).renew d (mkO fl i.size (rs++new))).put (some d) (.own d i.size (rs.length+new.length)))->kC P g o a w K:=by
    clear hK;intro fl rs cc hc hcc hk' hb d hdst hd0 hK;subst hk';obtain⟨L1,hr1,hrv1⟩:=h.yw7 hO ep hc fl hcc hd0;have hrv1:=hrv1 (Good g (upd d (mkO fl i.size rs) (upd id (.tr k0 (ver'+1) (setAt rows i'.toNat j .jk)) s.objs)) L1 w) (upd d (mkO fl i.size rs) (upd id (.tr k0 (ver'+1) (setAt rows i'.toNat j .jk)) s.objs)) (by simp[upd])
    have hsrc:jF ⟨s.env,upd d (mkO fl i.size rs) (upd id (.tr k0 (ver'+1) (setAt rows i'.toNat j .jk)) s.objs)⟩ i.size (s.ev xq)=some new:=by
     rw[<-hnew]
     have hob:∀x k3 r3,s.ob x=.row k3 r3->(⟨s.env,upd d (mkO fl i.size rs) (upd id (.tr k0 (ver'+1) (setAt rows i'.toNat j .jk)) s.objs)⟩:St).ob x=.row k3 r3:=by
      intro x k3 r3 hx;have h1:x≠d:=by rintro rfl;rw[kR hd0]at hx;cases hx
      have h2:x≠id:=by rintro rfl;rw[hO]at hx;cases hx
      show upd d _ _ x=_
      rw[oD,if_neg h1,oD,if_neg h2];exact hx
     revert hnew;cases s.ev xq with
     |own x k3 n3=>
      intro hnew;simp only[jF]at hnew|-;split at hnew
      ·rename_i k4 r4 hx;rw[hob x k4 r4 hx]
      ·cases hnew
     |cut x k3 l3 n3=>
      intro hnew;simp only[jF]at hnew|-;split at hnew
      ·rename_i k4 r4 hx;rw[hob x k4 r4 hx]
      ·cases hnew
     |c y=>intro _;cases y<;>rfl
     |_=>intro _;rfl
    have eq1:=hr1.evt hq;obtain⟨A',c',news',hA',n0,n0',n1,n2,n3,n4,n5⟩:=(src_ok hr1 eq1 hsrc).news;rw[hA]at hA';cases hA'
    have hlive:(⟨s.env,upd d (mkO fl i.size rs) (upd id (.tr k0 (ver'+1) (setAt rows i'.toNat j .jk)) s.objs)⟩:St).objs d≠.none:=by
     show upd d _ _ d≠_
     rw[oD,if_pos rfl];cases fl<;>simp[mkO]
    obtain⟨hb0,olds,Fo,u1,u2,u3,u4,u5,u6,u7⟩:=ydG hr1 hrv1 fl (by cases fl with|false=>exact .inr ⟨rfl,0,by simp[St.ob,upd,mkO]⟩|true=>exact .inl (by simp[St.ob,upd,mkO])) rfl;obtain⟨r,w',X,v1,v2,v3,v4⟩:=yaN (w:=w) (ty:=o.type) ht hi hz hsz hby u1 n0 n0' n1 n2 n3 hb (c:=c);obtain⟨L',hre,hrv⟩:=hr1.append fl (t:=d) (ids:=[d]) (Fo:=Fo) (Fn:=λ_ _=>noF) (.inl (by simp)) u2 u3 n4 u4 (λi r j c hr hc=>let⟨u,hu,hru⟩:=n5 i r j c hr hc;⟨u,hu,.yvF hru⟩) (λq hq=>⟨d,by simp,hlive,u5 q hq⟩) (λi j x hx=>⟨d,by simp,hlive,u6 i j x hx⟩) (λ_ _ _ h=>h.elim) u7 (λ_ _ _ _ _ h=>h.elim) (λ_ _ _ _ _ _ h=>h.elim) v2 v3 v4;rw[yht]at hre
    have hst:(⟨s.env,upd d (mkO fl i.size rs) (upd id (.tr k0 (ver'+1) (setAt rows i'.toNat j .jk)) s.objs)⟩:St).renew d (mkO fl i.size (rs++new))=(s.jD id (.tr k0 (ver'+1) (setAt rows i'.toNat j .jk))).renew d (mkO fl i.size (rs++new)):=by
     unfold St.renew St.jD
     congr 1
     funext x
     unfold upd;split
     ·rfl
     ·rename_i hx;simp only[if_neg hx]
    rw[hst]at hre;refine⟨_,_,run _ _ v1,_,L',hK,?_⟩;rw[hdst];exact hre.put (by rw[<-hdst];exact hd) (hrv _ _ (by simp[St.renew,upd]))
   split at hK
   ·rename_i k2 rs hc;obtain⟨hk',hk2,hb,hK⟩:=hK;subst hk2;split at hK
    ·rename_i d hdst;exact fin true rs _ hc rfl hk' hb d hdst hK.1 hK.2
    ·exact hK.elim
   ·rename_i k2 rs hc;obtain⟨hk',hk2,hb,hK⟩:=hK;subst hk2;split at hK
    ·rename_i d hdst;exact fin false rs _ hc rfl hk' hb d hdst hK.1 hK.2
    ·exact hK.elim
   ·exact hK.elim
  ·exact hK.elim
 ·split at hK
  case h_2=>exact hK.elim
  rename_i idy new hsrc;obtain⟨hly,Fn,hso,hFn,hdn⟩:=ys4 h eq hsrc;obtain⟨A,c,news,hA,n0,n0',n1,n2,n3,n4,n5⟩:=hso.news;rw[hA]at run;generalize s.ev xp=vp at hK ep;generalize a.eval p=v at ep run;split at hK
  ·rename_i kn;obtain⟨hb,hK⟩:=hK;cases ep;unfold newP at hK;split at hK
   case h_2=>exact hK.elim
   rename_i d hdst;obtain⟨hd0,hK⟩:=hK
   have hd1:d∈[idy]\/s.objs d=.none:=by
    by_cases hdy:d=idy
    ·exact .inl (by simp[hdy])
    ·refine .inr ?_;have:=kR hd0;rw[show(s.drop idy).ob d=(s.objs d).kill idy by simp[St.drop,St.renew,St.ob,upd,hdy]]at this;cases hs:s.objs d with
     |none=>rfl
     |_=>exact absurd this ((Obj.yeD idy _).2 (by rw[hs];simp))
   obtain⟨r,w',X,v1,v2,v3,v4⟩:=yaN (w:=w) (ty:=o.type) ht hi hz hsz hby (v:=.slice none 0 0) (hb:=none) (n:=0) (olds:=[]) (.inl ⟨rfl,⟨none,rfl⟩,rfl,rfl⟩) n0 n0' n1 n2 n3 (by rw[zaR];exact hb) (c:=c);obtain⟨L',hre,hrv⟩:=h.append false (t:=d) (ids:=[idy]) (rows:=[]) (olds:=[]) (Fo:=λ_ _=>noF) (Fn:=Fn) hd1 (by simp) (by simp) n4 (λi r j c hr=>by simp at hr) n5 (λq hq=>by cases hq) (λ_ _ _ h=>h.elim) (λi j x hx=>⟨idy,by simp,hly,hFn i j x hx⟩) (λ_ _ _ _ _ h=>h.elim) hdn (λ_ _ _ _ _ h=>h.elim) v2 v3 (by simpa using v4);refine⟨_,_,run _ _ v1,_,L',hK,?_⟩
   have hput:=hre.put (d:=some d) (v:=r) (x:=.own d i.size new.length) (by rw[<-hdst];exact hd) (by
    have:=hrv (Good g (upd d (mkO false i.size ([]++new)) (s.drops [idy]).objs) L' w') (upd d (mkO false i.size ([]++new)) (s.drops [idy]).objs) (by simp[upd]);simp only[zcJ,zbv,zaR]at this|-;exact this)
   rw[hdst];exact hput
  ·rename_i id k' n;obtain⟨hne,hK⟩:=hK
   have fin:∀(rows:List (List C)),(s.ob id=.row i.size rows\/(false=false/\∃ver,s.ob id=.tr i.size ver rows))->s.objs id≠.none->k'=i.size->n=rows.length->(rows.length+new.length)*i.bytes<=140737488355328->
    K (((s.drop idy).renew id (.tr i.size 0 (rows++new))).put o.dst (.own id i.size (rows.length+new.length)))->kC P g o a w K:=by
    clear hK;intro rows hO hlive hk' hn hb hK;subst hk';subst hn;obtain⟨hb0,olds,Fo,u1,u2,u3,u4,u5,u6,u7⟩:=ydG h ep false hO rfl;obtain⟨r,w',X,v1,v2,v3,v4⟩:=yaN (w:=w) (ty:=o.type) ht hi hz hsz hby u1 n0 n0' n1 n2 n3 hb (c:=c);obtain⟨L',hre,hrv⟩:=h.append false (t:=id) (ids:=[idy,id]) (Fo:=Fo) (Fn:=Fn) (.inl (by simp)) u2 u3 n4 u4 n5 (λq hq=>⟨id,by simp,hlive,u5 q hq⟩) (λi j x hx=>⟨id,by simp,hlive,u6 i j x hx⟩) (λi j x hx=>⟨idy,by simp,hly,hFn i j x hx⟩) u7 hdn (λi j i' j' x hx hx'=>hne (h.inj id idy x hlive hly (.inr (u6 i j x hx)) (.inr (hFn i' j' x hx')))) v2 v3 v4;rw[yjM s id idy hne]at hre;refine⟨_,_,run _ _ v1,_,L',hK,hre.put hd (hrv _ _ ?_)⟩;simp[St.renew,upd,mkO]
   split at hK
   ·rename_i k2 rows hO;obtain⟨rfl,hn,hb,hK⟩:=hK
    have hk2:k2=i.size:=by
     obtain⟨m,hdim,_⟩:=ep;have:(s.ob id).xJ=some (i.size,m):=hdim;rw[hO]at this;simp[Obj.xJ]at this;exact this.1
    subst hk2;exact fin rows (.inl hO) (by rw[show s.objs id=_ from hO];simp) rfl hn hb hK
   ·rename_i k2 ver rows hO;obtain⟨rfl,hn,hb,hK⟩:=hK
    have hk2:k2=i.size:=by
     obtain⟨m,hdim,_⟩:=ep;have:(s.ob id).xJ=some (i.size,m):=hdim;rw[hO]at this;simp[Obj.xJ]at this;exact this.1
    subst hk2;exact fin rows (.inr ⟨rfl,ver,hO⟩) (by rw[show s.objs id=_ from hO];simp) rfl hn hb hK
   ·exact hK.elim
  ·exact hK.elim
theorem ymV(w:World)(t ty e:TypeId)(i:TypeInfo)(ht:P.underlying t=some (.slice e))(hi:P.info? e=some i){B A:Option Addr}{n bc m c:Nat}{news:List Value}(hl:news.length=min m n*i.size)(h0:A=none->min m n=0)(hnews:∀ad,A=some ad->∀j u,news[j]?=some u->w.cell? (ad.add j)=some u){w':World}
 (hst:∀b,B=some b->(storeCells b news).run P w=.ok () w') (hB:B=none->w'=w):
 (Builtin.copy_ #[t,t] ty #[.slice B n bc,.slice A m c]).run P w=.ok (goInt ((min m n:Nat):Int)) w':=by
 have hmm:Nat.min m n=min m n:=rfl
 have hf:(Builtin.firstCells i.size (min m n) (.slice A m c)).run P w=.ok news.toArray w:=by
  cases A with
  |none=>
   have:=h0 rfl;have hn:news=[]:=zaE (by rw[hl,this];simp);subst hn;simp[Builtin.firstCells,this]
  |some ad=>exact run_firstCells_some (P:=P) w i.size (min m n) ad m c news hl (hnews ad rfl)
 cases B with
 |none=>
  rw[hB rfl];simp[Builtin.copy_,run_underlying ht,sizeOf,typeInfo,hi,Builtin.lenOf,hmm,hf]
 |some b=>
  have:=hst b rfl;simp[Builtin.copy_,run_underlying ht,sizeOf,typeInfo,hi,Builtin.lenOf,hmm,hf,this]
end
section
variable {P:Program} {g:Ghost} {o:Oper} {s:St} {a:Act} {w:World} {blk:Lay} {K:St->Prop}
theorem ytR{t u ty e:TypeId}{i:TypeInfo}{z:Value}{ik:IntKind}(ht:P.underlying t=some (.slice e))(hu:P.underlying u=some (.int ik))(hi:P.info? e=some i)(hz:i.zero=some z)
 {m:Int} (h0:0<m) (h63:m<=9223372036854775807) (h48:m.toNat*i.bytes<=140737488355328) (hs:0<i.size):
 (Builtin.append_ #[t,u] ty #[.slice none 0 0,.int .i64 m]).run P w=
  .ok (.slice (some ⟨w.heap.size,0,none⟩) m.toNat (grownCap w m.toNat 0 e)) (w.drew.alloc (.cells (Builtin.zeroCells z.cells m.toNat++Builtin.zeroCells z.cells (grownCap w m.toNat 0 e-m.toNat)) e)):=by
 obtain⟨n,rfl⟩:=Int.eq_ofNat_of_zero_le (zcN h0);simp only[Int.ofNat_eq_coe,Int.toNat_natCast]at *;have hn:n≠0:=by omega
 have h63':¬(9223372036854775807<(n:Int)):=by omega
 have hw:IntKind.i64.wrap (n:Int)=n:=by unfold IntKind.wrap;simp[IntKind.bits,IntKind.signed];omega
 have hb:¬(281474976710656<(n:Int)*(i.bytes:Int)):=by
  have h:=Int.ofNat_le.2 h48;rw[Int.natCast_mul]at h;omega
 have hq:n*i.size≠0:=by have:=Nat.mul_pos (by omega:0<n) hs;omega
 have h48':¬(281474976710656<Builtin.nextslicecap n 0*i.bytes):=by rw[nextslicecap_zero (by omega)];omega
 simp[Builtin.append_,run_underlying ht,run_underlying hu,sizeOf,typeInfo,zeroValue,hi,hz,Builtin.lenOf,hn,h63',h48',Question.forced,run_firstCells_none,newRow,grownCap,asInt,asIntOf,hw,hb,hq];intro h;omega
theorem yuK(h:Repr g s a w blk)(hd:∀i,o.dst=some i->i<g.N){t u e:TypeId}{i:TypeInfo}{z:Value}{p q:Operand}{xp:X}{op:IOp}(ho:o.op=.call {callee:=.builtin .append,args:=#[p,q],argTypes:=#[t,u]})
 (ht:P.underlying t=some (.slice e)) (hi:P.info? e=some i) (hz:i.zero=some z) (hp:cxt P t p=some xp) (hc:yt3 P u e i z xp q=some op) (hK:bD P o.dst op s K):kC P g o a w K:=by
 unfold yt3 at hc;split at hc
 case h_2=>cases hc
 rename_i ik hu;split at hc
 case h_2=>cases hc
 rename_i xn hn;split at hc
 case isFalse=>cases hc
 rename_i hif;obtain⟨hsz,hs,hby⟩:=hif;simp only[zak]at hc;obtain⟨cs,hcs,rfl⟩:=hc;simp only[bD]at hK;have ep:=h.evt hp;have eq:=h.ev hn
 have run:∀r w',(Builtin.append_ #[t,u] o.type #[a.eval p,a.eval q]).run P w=.ok r w'->(execOp a.eval o).run P w=.ok (.value r) w':=by
  intro r w' hr;simp[execOp,ho,resolve,invoke,builtin,hr]
 revert hK ep eq run;generalize s.ev xp=vp;generalize s.ev xn=vn;generalize a.eval p=v;generalize a.eval q=v2;intro hK ep eq run;unfold yj1 at hK;split at hK
 case h_2=>exact hK.elim
 rename_i kn m;obtain⟨h0,h1,hK⟩:=hK;cases ep;obtain⟨e2,i2⟩:=eq.int;subst e2;obtain⟨z1,z2⟩:=yad (yeJ hcs);have z3:cs.length=i.size:=by rw[z1,zbV,hsz]
 rcases Int.lt_or_eq_of_le h0 with hm|hm
 ·have hr:=ytR (P:=P) (w:=w) (ty:=o.type) ht hu hi hz hm i2.2 h1 hs
  have hmx:m.toNat<=maxLen:=by
   have:=zbh (zbY m.toNat hby) h1;unfold maxLen;omega
  have hcap:=grownCap_ge w m.toNat 0 e;have hcapm:=grownCap_le_maxLen w m.toNat 0 e hmx;have hdr:w.drew.heap.size=w.heap.size:=rfl;refine yar (w:=w.drew) h.drew hd (w1:=w) (v:=.slice (some ⟨w.heap.size,0,none⟩) m.toNat (grownCap w m.toNat 0 e)) (arr:=Builtin.zeroCells z.cells m.toNat++Builtin.zeroCells z.cells (grownCap w m.toNat 0 e-m.toNat)) (e:=e) (run _ _ hr) ?_ ?_ hK
  ·intro w' G' O' blk' KK hh;refine .inr ⟨_,_,_,rfl,hh,?_,λr hr=>by rw[(zbq.1 hr).2];exact z3,λi2 r j c hr hc=>?_⟩
   ·simp only[zbR,size_zeroCells,hsz,zbo];exact Nat.le_add_right _ _
   ·have hi2:i2<m.toNat:=by have:=(zab.1 hr).1;simpa using this
    rw[zbl,if_pos hi2]at hr;cases hr;obtain⟨u,hu,hru⟩:=z2 j c hc;have hj:j<i.size:=by rw[<-z3];exact(zab.1 hc).1
    refine⟨u,?_,yeA hru⟩
    have hlt:i2*i.size+j<(Builtin.zeroCells z.cells m.toNat).size:=by
     rw[size_zeroCells,hsz];have:=zaj i.size (show i2+1<=m.toNat by omega);rw[zaz]at this;omega
    rw[zaS hlt];have hmod:(i2*i.size+j)%i.size=j:=by rw[zcp,Nat.mul_add_mod];exact zcE hj
    have hlt2:i2*i.size+j<m.toNat*i.size:=by rw[size_zeroCells,hsz]at hlt;exact hlt
    have hu2:z.cells[j]?=some u:=by simpa using hu
    simp[Builtin.zeroCells,hsz,hlt2,hmod,hu2,getElem!_def]
  ·intro d G' O' blk' hO hb hh;exact⟨_,by rw[hO];rfl,by simp,.inr ⟨_,_,_,_,hb,rfl,hcap,hcapm,hh,by simp only[zbR,size_zeroCells,hsz,<-zaz];exact zaj _ (by omega)⟩⟩
 ·subst hm
  have hr:(Builtin.append_ #[t,u] o.type #[.slice none 0 0,.int .i64 0]).run P w=.ok (.slice none 0 0) w:=by
   have hw:IntKind.i64.wrap (0:Int)=0:=by unfold IntKind.wrap;simp[IntKind.bits,IntKind.signed]
   simp[Builtin.append_,run_underlying ht,run_underlying hu,sizeOf,typeInfo,zeroValue,hi,hz,asInt,asIntOf,hw]
  unfold newP at hK;split at hK
  ·rename_i d hdst;obtain⟨hd0,hK⟩:=hK;have hv:=h.virt (d:=d) (k:=i.size) true (kR hd0);refine⟨_,_,run _ _ hr,_,blk.upd d none noF,hK,?_⟩;have hput:=hv.put (d:=some d) (v:=.slice none 0 0) (x:=.own d i.size 0) (by rw[<-hdst];exact hd) ⟨0,by simp[upd,mkO,Obj.xJ],Nat.le_refl _,.inl ⟨by show(blk.upd _ _ _).root d=_;rw[Lay.xE,if_pos rfl],rfl,none,rfl⟩⟩;rw[hdst];exact hput
  ·exact hK.elim
end
end Go.Proofs.YtpiplmnecmkafaaGreat
namespace Go.Proofs.YtpiplmnecmkafaaGreat
open Go.RowKit
section
variable {P:Program} {g:Ghost} {o:Oper} {s:St} {a:Act} {w:World} {blk:Lay} {K:St->Prop}
theorem fold_push:∀(l:List UInt8) (acc:ByteArray),(l.map λb=>(b.toNat:Int)).foldl (λr n=>r.push (UInt8.ofNat n.toNat)) acc=⟨acc.data++l.toArray⟩
 |[],acc=>by simp
 | b::l,acc=>by
  simp only[zaD,zcc];rw[fold_push l]
  have:(acc.push (UInt8.ofNat (b.toNat:Int).toNat)).data=acc.data.push b:=by
   simp[ByteArray.push]
  rw[this];simp
theorem yva(h:Repr g s a w blk){v:Value}{y:AV}{k:Nat}{new:List (List C)}(hv:RVs g s w blk v y)(hs:jF s k y=some new):new.length<=maxLen:=by
 have rd:∀rows,Rd w (Good g s.objs blk w) v (.sl k rows)->rows.length<=maxLen:=by
  intro rows hr;cases hr;omega
 unfold jF at hs;split at hs
 ·split at hs
  ·rename_i e;subst e;cases hs;exact rd _ hv.c
  ·cases hs
 ·split at hs
  ·rename_i e;subst e;cases hs;obtain⟨_,_,_,hr⟩:=hv;exact rd _ hr
  ·cases hs
 ·split at hs
  ·split at hs
   ·cases hs;obtain⟨m,_,hn,hval⟩:=hv;rcases hval with⟨_,h0,_⟩|⟨_,_,_,_,_,_,h1,h2,_⟩
    ·rw[zaY];unfold maxLen;omega
    ·rw[zaY];omega
   ·cases hs
  ·cases hs
 ·split at hs
  ·split at hs
   ·cases hs;obtain⟨m,A,c,_,_,_,h1,h2,_⟩:=hv;rw[zaY];omega
   ·cases hs
  ·cases hs
 ·cases hs;simp
 ·cases hs
theorem wrap_u64{n:Int}(h0:0<=n)(h1:n<=9223372036854775807):IntKind.u64.wrap n=n:=by
 simp only[IntKind.wrap,IntKind.bits,IntKind.signed];simp;omega
theorem yg7(h:Repr g s a w blk)(hd:∀i,o.dst=some i->i<g.N){n:Nat}{t u:TypeId}{p:Operand}{xp:X}(ho:o.op=.convert t u p)
 (hn:(n=0/\(isByte P t||isInt P t)=true/\isInt P u=true)\/(n=1/\(isByte P t||isInt P t)=true/\isByte P u=true)\/(n=2/\∃e,P.underlying t=some (.slice e)/\P.underlying u=some .string/\isByte P e=true)
  \/(n=0/\yeL P t=true/\isInt P u=true)\/(n=3/\isInt P t=true/\yeL P u=true))
 (hp:cx p=some xp) (hK:bW n s (s.ev xp) λv=>K (s.put o.dst v)):kC P g o a w K:=by
 have ep:=h.ev hp
 have hint:∀{t:TypeId},isInt P t=true->P.underlying t=some (.int .i64):=by
  intro t ht;unfold isInt at ht;split at ht
  ·assumption
  ·cases ht
 have hbyte:∀{t:TypeId},isByte P t=true->P.underlying t=some (.int .u8):=by
  intro t ht;unfold isByte at ht;split at ht
  ·assumption
  ·cases ht
 have hsrc:(isByte P t||isInt P t)=true->∃k,P.underlying t=some (.int k):=by
  intro ht;simp only[zaX]at ht;rcases ht with ht|ht
  ·exact⟨_,hbyte ht⟩
  ·exact⟨_,hint ht⟩
 have run:∀(k k':IntKind) (m:Int),(∃k0,P.underlying t=some (.int k0))->P.underlying u=some (.int k')->a.eval p=.int k m->(execOp a.eval o).run P w=.ok (.value (.int k' (k'.wrap m))) w:=by
  intro k k' m ⟨k0,h0⟩ h1 e1;simp[execOp,ho,e1,convert,run_underlying h0,run_underlying h1,Conv.intToInt]
 have hwide:∀{t:TypeId},yeL P t=true->P.underlying t=some (.int .u64):=by
  intro t ht;unfold yeL at ht;split at ht
  ·assumption
  ·cases ht
 have zero:∀(k0:∃k,P.underlying t=some (.int k)) (h1:isInt P u=true),bW 0 s (s.ev xp) (λv=>K (s.put o.dst v))->kC P g o a w K:=by
  intro k0 h1 hK;unfold bW at hK;simp only at hK;split at hK
  ·rename_i m hm;rw[hm]at ep;obtain⟨e1,hlt⟩:=ep.byte;refine kC.mO h hd hK (run _ _ _ k0 (hint h1) e1) ?_;rw[sV (by unfold inI;omega)];exact .mkI (by unfold inI;omega)
  ·rename_i m hm;rw[hm]at ep;obtain⟨e1,hin⟩:=ep.int;refine kC.mO h hd hK (run _ _ _ k0 (hint h1) e1) ?_;rw[sV hin];exact .mkI hin
  ·rename_i m hm;rw[hm]at ep;obtain⟨e1,hlt⟩:=ep.wide;refine kC.mO h hd hK.2 (run _ _ _ k0 (hint h1) e1) ?_;have:=hK.1;rw[sV (by unfold inI;omega)];exact .mkI (by unfold inI;omega)
  ·exact hK.elim
 rcases hn with⟨rfl,h0,h1⟩|⟨rfl,h0,h1⟩|⟨rfl,e,h0,h1,h2⟩|⟨rfl,h0,h1⟩|⟨rfl,h0,h1⟩
 ·exact zero (hsrc h0) h1 hK
 ·unfold bW at hK;simp only at hK;split at hK
  ·rename_i m hm;rw[hm]at ep;obtain⟨e1,hlt⟩:=ep.byte;refine kC.mO h hd hK (run _ _ _ (hsrc h0) (hbyte h1) e1) ?_;rw[wrap_u8,show(m:Int)%256=m by omega];exact .mk (.u hlt)
  ·rename_i m hm;rw[hm]at ep;obtain⟨e1,hin⟩:=ep.int;refine kC.mO h hd hK (run _ _ _ (hsrc h0) (hbyte h1) e1) ?_;rw[wrap_u8,show m%256=((m%256).toNat:Int) by omega];exact .mk (.u (by omega))
  ·exact hK.elim
 ·unfold bW at hK;simp only at hK;split at hK
  ·rename_i rows hrows;obtain⟨l,rfl,hK⟩:=hK;obtain⟨A,c,news,hA,n0,n0',n1,n2,n3,n4,n5⟩:=(src_ok h ep hrows).news
   have hnews:news=l.map λb=>Value.int .u8 b.toNat:=by
    apply zch;intro q;rcases zah q l.length with hq|hq
    ·obtain⟨z,hz,hr⟩:=n5 q [.u l[q].toNat] 0 (.u l[q].toNat) (by simp[ybW,hq]) rfl;simp only[Nat.mul_one,zbN]at hz;cases hr;rw[hz];simp[hq]
    ·rw[zbO (by rw[n1];simpa using hq),zbO (by simpa using hq)]
   have hmax:l.length<=maxLen:=by have:=yva h ep hrows;simpa using this
   have hcv:(convert t u (.slice A (l.map ybW).length c)).run P w=.ok (.string ⟨l.toArray⟩) w:=by
    have hcs:(convert t u (.slice A (l.map ybW).length c)).run P w=(Conv.bytesToString (.slice A (l.map ybW).length c)).run P w:=by
     simp[convert,run_underlying h0,run_underlying h1,run_underlying (hbyte h2)]
    rw[hcs,zbi];cases A with
    |none=>
     have:l=[]:=by have:=n0 rfl;simpa using this
     subst this;rfl
    |some ad=>
     have hld:=run_loadCells_list (P:=P) w ad news (n2 ad rfl);rw[hnews,zbi,show(l.map λb=>Value.int .u8 b.toNat)=(l.map λb=>(b.toNat:Int)).map (Value.int .u8) by rw[zcr];rfl]at hld;rw[run_bytesToString w ad l.length c _ hld,fold_push];simp
   have hrun:(execOp a.eval o).run P w=.ok (.value (.string ⟨l.toArray⟩)) w:=by
    simp only[execOp,ho,hA,Sem.run_bind,hcv,Result.andThen_ok,Sem.run_pure]
   exact kC.mO h hd hK hrun (.mk (.s (by simpa[ByteArray.size]using hmax)))
  ·exact hK.elim
 ·exact zero ⟨_,hwide h0⟩ h1 hK
 ·unfold bW at hK;simp only at hK;split at hK
  ·rename_i m hm;rw[hm]at ep;obtain⟨e1,hin⟩:=ep.int;obtain⟨h3,hK⟩:=hK;unfold inI at hin;refine kC.mO h hd hK (run _ _ _ ⟨_,hint h0⟩ (hwide h1) e1) ?_;rw[wrap_u64 h3 hin.2,show m=(m.toNat:Int) by omega];exact .mk (.q (by omega))
  ·exact hK.elim
theorem cp_ok (h:Repr g s a w blk) (hd:∀i,o.dst=some i->i<g.N) {t e:TypeId} {k:Nat} {p q:Operand} {xp xq:X} (ho:o.op=.call {callee:=.builtin .copy,args:=#[p,q],argTypes:=#[t,t]})
 (ht:P.underlying t=some (.slice e)) (hk:bY P e=some k)
 (hp:cx p=some xp) (hq:cx q=some xq) (hK:cpP k s o.dst (s.ev xp) (s.ev xq) K):kC P g o a w K:=by
 obtain⟨i,hi,rfl⟩:=bV hk;have ep:=h.ev hp;have eq:=h.ev hq
 have run:∀r w',(Builtin.copy_ #[t,t] o.type #[a.eval p,a.eval q]).run P w=.ok r w'->(execOp a.eval o).run P w=.ok (.value r) w':=by
  intro r w' hr;simp[execOp,ho,resolve,invoke,builtin,hr]
 unfold cpP at hK;split at hK
 ·rename_i new hnew;obtain⟨A,c,news,hA,n0,n0',n1,n2,n3,n4,n5⟩:=(src_ok h eq hnew).news;split at hK
  ·rename_i id k' n hx;split at hK
   ·rename_i k2 rows hO;obtain⟨rfl,hle,hK⟩:=hK;rw[hx]at ep;obtain⟨m,hdim,hn,hval⟩:=ep
    have hk2:k2=i.size/\rows.length=m:=by
     have:(s.ob id).xJ=some (i.size,m):=hdim;rw[hO]at this;simpa[Obj.xJ]using this
    obtain⟨rfl,rfl⟩:=hk2;have hlive:s.ob id≠.none:=by rw[hO];simp
    have hmin:min new.length n*i.size<=news.length:=by rw[n1];exact zaj _ (by omega)
    have hgi:∀(x:Nat),goInt x=.int .i64 x:=λ_=>rfl;have hcpl:(news.take (min new.length n*i.size)).length=min new.length n*i.size:=by simp;omega
    rcases hval with⟨hb,rfl,A0,hv⟩|⟨b,cap,arr,e',hb,hv,h1,h2,h3,h4⟩
    ·have hr:=ymV (P:=P) w t o.type e i ht hi (B:=A0) (A:=A) (n:=0) (bc:=0) (m:=new.length) (c:=c) (news:=[]) (by simp) (λe=>by simp) (λ_ _ j u hu=>by simp at hu) (w':=w) (λb _=>by simp[storeCells]) (λ_=>rfl);rw[<-hv,<-hA]at hr;have e1:new.take 0++rows.drop (min new.length 0)=rows:=by simp
     rw[e1]at hK;refine⟨_,_,run _ _ hr,_,blk,hK,?_⟩
     have:s.jD id (.row i.size rows)=s:=by
      unfold St.jD
      congr 1
      funext x
      unfold upd;split
      ·rename_i hx';rw[hx'];exact hO.symm
      ·rfl
     rw[this];refine h.put hd ?_;rw[hgi];exact .mkI (by unfold inI;omega)
    ·obtain⟨arr',e2,r1,r2,r3,r4⟩:=h.row hO hb;rw[h3]at r1;cases r1
     have hfit:0+(news.take (min new.length n*i.size)).length<=arr.size:=by
      rw[hcpl,zaR];exact zbh (zaj _ (by omega)) h4
     have hst:=run_storeCells_at P b 0 e' (news.take (min new.length n*i.size)) 0 arr w h3 (by simpa using hfit) (λu hu=>n3 u (zaP hu));simp only[zbN,zaR]at hst
     have hr:=ymV (P:=P) w t o.type e i ht hi (B:=some ⟨b,0,none⟩) (A:=A) (n:=n) (bc:=cap) (m:=new.length) (c:=c) (news:=news.take (min new.length n*i.size)) hcpl (λe=>by rw[n0 e];simp) (λad had j u hu=>by
      rw[zas]at hu;split at hu
      ·exact n2 ad had j u hu
      ·cases hu) (λb0 hb0=>by cases hb0;exact hst) (λe=>by cases e)
     rw[<-hv,<-hA]at hr;refine⟨_,_,run _ _ hr,_,blk,hK,?_⟩;have hsz2:(arr.toList.take 0++news.take (min new.length n*i.size)++arr.toList.drop (0+(news.take (min new.length n*i.size)).length)).toArray.size=arr.size:=xM arr _ 0 _ rfl hfit
     have hre:=h.setRow (o':=.row i.size (new.take n++rows.drop (min new.length n))) hlive hb h3 hsz2 (by rw[hO];exact⟨_,rfl,by simp;omega⟩) (λk v rows e=>by rw[hO]at e;cases e) (λw' G' O' KK hh _=>by
      refine .inr ⟨b,_,e',rfl,hh,by rw[hsz2];simp;refine zbh (zaj _ ?_) r2;omega,λr hr=>?_,λi2 r j c2 hr hc=>?_⟩
      ·rcases zao.1 hr with h5|h5
       ·exact n4 r (zaP h5)
       ·exact r3 r (zby h5)
      ·rw[kU _ _ _ _ rfl hfit,if_neg (by omega),hcpl];simp only[zaR,Nat.sub_zero]
       by_cases hi2:i2<min new.length n
       ·rw[zat (by simp;omega),zas,if_pos (by omega)]at hr;obtain⟨u,hu,hru⟩:=n5 i2 r j c2 hr hc;have hj:j<i.size:=by rw[<-n4 r (zac hr)];exact(zab.1 hc).1
        have h5:(i2+1)*i.size<=min new.length n*i.size:=zaj _ hi2;rw[zaz,zaW]at h5;exact⟨u,by rw[if_pos (by omega),zas,if_pos (by omega)];exact hu,Rd.mono hru KK.good KK.cell⟩
       ·rw[zan (by simp;omega),zaF,zaY]at hr;rw[show min new.length n+(i2-min n new.length)=i2 by omega]at hr;obtain⟨u,hu,hru⟩:=r4 i2 r j c2 hr hc;have h5:min new.length n*i.size<=i2*i.size:=zaj _ (by omega);exact⟨u,by rw[if_neg (by omega)];exact hu,hru.mono KK.good KK.cell⟩)
     simp only[zaR]at hre;refine hre.put hd ?_;rw[hgi];exact .mkI (by unfold maxLen at h2;unfold inI;omega)
   ·exact hK.elim
  ·exact hK.elim
 ·exact hK.elim
theorem ynh (h:Repr g s a w blk) (hd:∀i,o.dst=some i->i<g.N) {op:IOp} {c:Call} (ho:o.op=.call c) (hc:yip P c=some op) (hK:bD P o.dst op s K):kC P g o a w K:=by
 obtain⟨callee,args,ts⟩:=c;obtain⟨args⟩:=args;obtain⟨ts⟩:=ts;unfold yip at hc;simp only at hc;split at hc
 ·split at hc
  ·rename_i x t;split at hc
   ·rename_i e xx ht hx;cases hc;exact yxc h hd ho ht hx hK
   ·rename_i xx ht hx;cases hc;exact yuf h hd ho ht hx hK
   ·cases hc
  ·cases hc
 ·split at hc
  ·rename_i x y t u;split at hc
   ·rename_i e xx yy ht hx hy;split at hc
    ·rename_i i hi;split at hc
     ·rename_i z hz;split at hc
      ·rename_i hif;obtain⟨rfl,h1,h2,h3⟩:=hif;cases hc;exact yyv h hd ho ht hi hz h2 h3 hx hy hK
      ·exact yuK h hd ho ht hi hz hx hc hK
     ·cases hc
    ·cases hc
   ·cases hc
  ·cases hc
 ·simp only[zak]at hc;obtain⟨y,hy,rfl⟩:=hc;exact mn_ok h hd ho hy hK
 ·simp only[zak]at hc;obtain⟨y,hy,rfl⟩:=hc;exact mx_ok h hd ho hy hK
 ·split at hc
  ·rename_i x t;split at hc
   ·rename_i e xx ht hx;cases hc;exact yxq h hd ho ht hx hK
   ·cases hc
  ·cases hc
 ·split at hc
  ·rename_i x y t u;split at hc
   ·rename_i e xx yy ht hx hy;split at hc
    ·rename_i e2;subst e2;split at hc
     ·rename_i k hk;cases hc;exact cp_ok h hd ho ht hk hx hy hK
     ·cases hc
    ·cases hc
   ·cases hc
  ·cases hc
 ·rename_i f;split at hc
  ·rename_i fn ys hf hy;split at hc
   ·rename_i hif;cases hc;simp only[zad]at hif;refine yuo h hd ho hf hif.1 hif.2 ?_ hK;split at hy
    ·rename_i xs hxs;cases hy;exact .inl hxs
    ·exact .inr hy
   ·split at hc
    ·rename_i n x y he hl;cases hc;cases args with
     |nil=>cases hl
     | cons p l=>
      cases l with
      |nil=>simp at hl
      | cons q l=>
       cases l with
       |nil=>
        simp only[zaD,zcL,List.cons.injEq,and_true]at hl;exact yyA h hd ho hf he hl.1 hl.2 hK
       |cons _ _=>simp at hl
    ·cases hc
  ·cases hc
 ·rename_i f _;split at hc
  ·rename_i x xs hx hxs;cases hc;exact yrM h hd ho hx hxs hK
  ·cases hc
 ·cases hc
theorem ytD(h:Repr g s a w blk)(hd:∀i,o.dst=some i->i<g.N){op:IOp}(hc:ygL P o=some op)(hK:bD P o.dst op s K):kC P g o a w K:=by
 unfold ygL at hc;split at hc
 ·rename_i x ho;simp only[zak]at hc;obtain⟨y,hy,rfl⟩:=hc;exact yvo h hd (.inl ho) hy hK
 ·rename_i x ho;simp only[zak]at hc;obtain⟨y,hy,rfl⟩:=hc;exact yvo h hd (.inr ho) hy hK
 ·rename_i c x y ho;split at hc
  ·rename_i h1 h2 h3;cases hc;exact yuk h hd ho h1 h2 h3 hK
  ·cases hc
 ·rename_i bop t x y t' ho;split at hc
  ·rename_i ik ht;split at hc
   ·rename_i h1 h2;split at hc
    ·cases hc;exact yls h hd ho h1 h2 hK
    ·cases hc;exact yls h hd ho h1 h2 hK
    ·cases hc;exact yls h hd ho h1 h2 hK
    ·cases hc;exact yls h hd ho h1 h2 hK
    ·split at hc
     ·cases hc;exact yu4 h hd ho h1 h2 hK
     ·split at hc
      ·cases hc;exact yuO h hd ho h1 h2 hK
      ·cases hc;exact yyd h hd ho h1 h2 hK
   ·rename_i h1 h2;simp only[zak]at hc;obtain⟨n,hn,rfl⟩:=hc;exact yve h hd ho h1 hn hK
   ·cases hc
  ·rename_i ht;split at hc
   ·rename_i h1 h2;cases hc;exact seq_ok (neg:=false) h hd ho ht h1 h2 hK
   ·rename_i h1 h2;cases hc;exact seq_ok (neg:=true) h hd ho ht h1 h2 hK
   ·rename_i h1 h2;cases hc;exact yuj h hd ho ht h1 h2 hK
   ·cases hc
  ·rename_i ht;split at hc
   ·rename_i h1 h2;cases hc;exact ytl (neg:=false) h hd ho ht h1 h2 hK
   ·rename_i h1 h2;cases hc;exact ytl (neg:=true) h hd ho ht h1 h2 hK
   ·cases hc
  ·rename_i ht;split at hc
   ·rename_i hst;split at hc
    ·rename_i h1 h2;cases hc;exact ytj (neg:=false) h hd ho ht hst h1 h2 hK
    ·rename_i h1 h2;cases hc;exact ytj (neg:=true) h hd ho ht hst h1 h2 hK
    ·cases hc
   ·cases hc
  ·rename_i ht;split at hc
   ·rename_i h1;cases hc;exact yxg h hd ho ht h1 hK
   ·cases hc
  ·cases hc
 ·rename_i t ho;cases hc;exact yyK h hd ho hK
 ·rename_i t m k v ho;split at hc
  ·rename_i ht;split at hc
   ·rename_i h1 h2 h3;cases hc;exact yw4 h hd ho ht h1 h2 h3 hK
   ·cases hc
  ·cases hc
 ·rename_i t m k ho;split at hc
  ·rename_i ht;split at hc
   ·rename_i h1 h2;cases hc;exact yxa h hd ho ht h1 h2 hK
   ·cases hc
  ·cases hc
 ·rename_i t x ho;simp only[zak]at hc;obtain⟨y,hy,rfl⟩:=hc;exact yxU h hd ho hy hK
 ·rename_i t x ho;simp only[zak]at hc;obtain⟨y,hy,rfl⟩:=hc;exact yx0 h hd ho hy hK
 ·rename_i t x y ho;split at hc
  ·rename_i ht h1 h2;simp only[zak]at hc;obtain⟨k,hk,rfl⟩:=hc;exact yxL h hd ho ht hk h1 h2 hK
  ·rename_i ht h1 h2;simp only[zak]at hc;obtain⟨k,hk,rfl⟩:=hc;exact yxk h hd ho ht hk h1 h2 hK
  ·cases hc
 ·rename_i t x f ho;split at hc
  ·rename_i fs xx ht hx;split at hc
   ·rename_i fl hf;split at hc
    ·rename_i n hn;cases hc;exact ywI h hd ho ht hf hn hx hK
    ·cases hc
   ·cases hc
  ·cases hc
 ·rename_i t x ho;split at hc
  ·rename_i h1 h2 h3;cases hc;exact yxf h hd ho h1 h3 h2 hK
  ·rename_i h1 h2;cases hc;exact yxO h hd ho h1 h2 hK
  ·cases hc
 ·rename_i t x v ho;split at hc
  ·rename_i h1 h2 h3 h4;cases hc;exact yyX h hd ho h4 h2 h3 hK
  ·rename_i h1 h2 h3 h4;cases hc;exact yy3 h hd ho h4 h2 h3 hK
  ·cases hc
 ·rename_i t x ho;split at hc
  ·rename_i h1 h2;cases hc;exact yyI h hd ho h1 hK
  ·cases hc
 ·rename_i t ho;split at hc
  ·rename_i i n e hi ht;split at hc
   ·rename_i z j hz hj;split at hc
    ·rename_i y hy;split at hc
     ·rename_i cs hcs;split at hc
      ·rename_i hif;cases hc;simp only[zad,beq_iff_eq]at hif;exact yqM h hd ho hi hz hif.1 hif.2 hK
      ·cases hc
     ·cases hc
    ·cases hc
   ·cases hc
  ·rename_i i d _ hi ht;split at hc
   ·rename_i z hz;simp only[zak]at hc;obtain⟨zs,hzs,rfl⟩:=hc;exact ysv h hd ho hi hz hzs hK
   ·cases hc
  ·cases hc
 ·rename_i t l c ho;split at hc
  ·rename_i e xl xc ht hl hc';split at hc
   ·rename_i i hi;split at hc
    ·rename_i z hz;split at hc
     ·rename_i hif;simp only[zak]at hc;obtain⟨cs,hcs,rfl⟩:=hc;exact ywA h hd ho ht hi hz (yeJ hcs) hif.1 hl hc' hK
     ·cases hc
    ·cases hc
   ·cases hc
  ·cases hc
 ·rename_i t n parts ho;split at hc
  ·rename_i e xs ht hx;split at hc
   ·rename_i i hi;split at hc
    ·rename_i z hz;split at hc
     ·rename_i hif;cases hc;exact ywS h hd ho ht hi hz hx hif.1 hif.2.1 hif.2.2.1 hK
     ·cases hc
    ·cases hc
   ·cases hc
  ·cases hc
 ·rename_i t parts ho;split at hc
  ·rename_i it fields hi ht;split at hc
   ·rename_i z places hz hp;split at hc
    ·rename_i ps zs hps hzs;cases hc;exact ywK h hd ho hi ht hz hp hps hzs hK
    ·cases hc
   ·cases hc
  ·cases hc
 ·rename_i t x lo hi mx ho;split at hc
  ·rename_i e xx ht hx;split at hc
   ·rename_i k y hk hl hh hm;cases hc;cases lo<;>simp at hl;cases mx<;>simp at hm;cases hi with
    |none=>simp at hh
    |some y'=>
     simp only[zaB,Option.some.injEq]at hh;exact yla (xl:=none) (xm:=none) (xh:=some y) h hd ho ht hk hx (λ_ e=>by cases e) (λ_ e=>by cases e;exact⟨_,rfl,hh⟩) (λ_ e=>by cases e) (λ_=>rfl) (λe=>by cases e) (λ_=>rfl) hK
   ·rename_i k y hk hl hh hm;cases hc;cases hi<;>simp at hh;cases mx<;>simp at hm;cases lo with
    |none=>simp at hl
    |some y'=>
     simp only[zaB,Option.some.injEq]at hl;exact yla (xl:=some y) (xm:=none) (xh:=none) h hd ho ht hk hx (λ_ e=>by cases e;exact⟨_,rfl,hl⟩) (λ_ e=>by cases e) (λ_ e=>by cases e) (λe=>by cases e) (λ_=>rfl) (λ_=>rfl) hK
   ·rename_i k y y2 hk hl hh hm;cases hc;cases mx<;>simp at hm;cases lo with
    |none=>simp at hl
    | some y'=>
     simp only[zaB,Option.some.injEq]at hl;cases hi with
     |none=>simp at hh
     |some y2'=>
      simp only[zaB,Option.some.injEq]at hh;exact yla (xl:=some y) (xm:=none) (xh:=some y2) h hd ho ht hk hx (λ_ e=>by cases e;exact⟨_,rfl,hl⟩) (λ_ e=>by cases e;exact⟨_,rfl,hh⟩) (λ_ e=>by cases e) (λe=>by cases e) (λe=>by cases e) (λ_=>rfl) hK
   ·rename_i k y y2 hk hl hh hm;cases hc;cases lo<;>simp at hl;cases mx with
    |none=>simp at hm
    | some y'=>
     simp only[zaB,Option.some.injEq]at hm;cases hi with
     |none=>simp at hh
     |some y2'=>
      simp only[zaB,Option.some.injEq]at hh;exact yla (xl:=none) (xm:=some y2) (xh:=some y) h hd ho ht hk hx (λ_ e=>by cases e) (λ_ e=>by cases e;exact⟨_,rfl,hh⟩) (λ_ e=>by cases e;exact⟨_,rfl,hm⟩) (λ_=>rfl) (λe=>by cases e) (λe=>by cases e) hK
   ·cases hc
  ·rename_i n e xx ht hx;split at hc
   ·rename_i k y hk hl hh hm;split at hc
    ·rename_i hn;cases hc;cases lo<;>simp at hl;cases mx<;>simp at hm;cases hi with
     |none=>simp at hh
     |some y'=>
      simp only[zaB,Option.some.injEq]at hh;exact yyR h hd ho ht hk hx hh hn hK
    ·cases hc
   ·cases hc
  ·rename_i xx ht hx;split at hc
   ·rename_i y hl hh;cases hc;cases lo<;>simp at hl;cases hi with
    |none=>simp at hh
    |some y'=>
     simp only[zaB,Option.some.injEq]at hh;exact yok (xl:=none) (xh:=some y) h hd ho ht hx (λ_ e=>by cases e) (λ_ e=>by cases e;exact⟨_,rfl,hh⟩) (λ_=>rfl) (λe=>by cases e) hK
   ·rename_i y hl hh;cases hc;cases hi<;>simp at hh;cases lo with
    |none=>simp at hl
    |some y'=>
     simp only[zaB,Option.some.injEq]at hl;exact yok (xl:=some y) (xh:=none) h hd ho ht hx (λ_ e=>by cases e;exact⟨_,rfl,hl⟩) (λ_ e=>by cases e) (λe=>by cases e) (λ_=>rfl) hK
   ·rename_i y y2 hl hh;cases hc;cases lo with
    |none=>simp at hl
    | some y'=>
     simp only[zaB,Option.some.injEq]at hl;cases hi with
     |none=>simp at hh
     |some y2'=>
      simp only[zaB,Option.some.injEq]at hh;exact yok (xl:=some y) (xh:=some y2) h hd ho ht hx (λ_ e=>by cases e;exact⟨_,rfl,hl⟩) (λ_ e=>by cases e;exact⟨_,rfl,hh⟩) (λe=>by cases e) (λe=>by cases e) hK
   ·cases hc
  ·cases hc
 ·rename_i x ho;simp only[zak]at hc;obtain⟨y,hy,rfl⟩:=hc;exact ywt h hd ho hy hK
 ·rename_i t u x ho;split at hc
  ·rename_i y hy;split at hc
   ·rename_i hif;cases hc;simp only[zad]at hif;exact yg7 h hd ho (.inl ⟨rfl,hif.1,hif.2⟩) hy hK
   ·split at hc
    ·rename_i hif;cases hc;simp only[zad]at hif;exact yg7 h hd ho (.inr (.inl ⟨rfl,hif.1,hif.2⟩)) hy hK
    ·split at hc
     ·rename_i hif;cases hc;simp only[zad]at hif;exact yg7 h hd ho (.inr (.inr (.inr (.inl ⟨rfl,hif.1,hif.2⟩)))) hy hK
     split at hc
     ·rename_i hif;cases hc;simp only[zad]at hif;exact yg7 h hd ho (.inr (.inr (.inr (.inr ⟨rfl,hif.1,hif.2⟩)))) hy hK
     split at hc
     ·rename_i e h1 h2;split at hc
      ·rename_i hb;cases hc;exact yg7 h hd ho (.inr (.inr (.inl ⟨rfl,e,h1,h2,hb⟩))) hy hK
      ·cases hc
     ·cases hc
  ·cases hc
 ·rename_i f first captured ho
  split at hc
  ·rename_i xs hf hx;cases hc;exact ywM h hd ho hf hx hK.1 hK.2
  ·cases hc
 ·cases hc;exact hK.elim
 ·cases hc;exact hK.elim
 ·rename_i c ho;exact ynh h hd ho hc hK
 ·rename_i x i ho;simp only[zak]at hc;obtain⟨y,hy,rfl⟩:=hc;exact yxM h hd ho hy hK
 ·rename_i t x i ho;split at hc
  ·rename_i ht h1 h2;cases hc;exact yyq h hd ho ht h1 h2 hK
  ·cases hc
 ·cases hc
theorem step_ok(h:Repr g s a w blk)(hd:∀i,o.dst=some i->i<g.N){op:IOp}(hc:yhj P o=some op)(hK:bD P o.dst op s K):kC P g o a w K:=by
 unfold yhj at hc;cases h0:ygL P o with
 |some q=>
  rw[h0]at hc;cases hc;exact ytD h hd h0 hK
 |none=>
  rw[h0]at hc;cases hc;exact hK.elim
theorem ykd {N:Nat} {Q:Exit->Act->World->Prop} {ops:Array Oper} (hN:g.N=N):∀{l:List Oper} {is:List Ins} {s:St} {a:Act} {w:World} {blk:Lay} {K:St->Prop},pX P N ops l=some is->Repr g s a w blk->wpI P is s K->
 (∀s' blk' a' w',K s'->Repr g s' a' w' blk'->Q .normal a' w')->wpList P ops Q l a w
 |[],is,s,a,w,blk,K,hc,h,hK,hQ=>by
  cases hc;exact hQ _ _ _ _ hK h
 | o :: l,is,s,a,w,blk,K,hc,h,hK,hQ=>by
  simp only[pX]at hc;split at hc
  ·rename_i i is' h1 h2;cases hc;have ih:=λ{s:St} {a:Act} {w:World} {blk:Lay} {K:St->Prop}=>ykd (Q:=Q) (ops:=ops) hN (l:=l) (is:=is') (s:=s) (a:=a) (w:=w) (blk:=blk) (K:=K) h2
   have hd:∀i,o.dst=some i->i<g.N:=by
    intro j hj;unfold kV at h1;split at h1
    ·split at h1
     ·rename_i e;rw[e]at hj;cases hj
     ·rename_i d e
      by_cases hlt:d<N
      ·rw[e]at hj;cases hj;rw[hN];exact hlt
      ·rw[if_neg hlt]at h1;cases h1
    ·cases h1
   obtain⟨op,hop,hid,hiop,hg⟩:∃op,yhj P o=some op/\i.d=o.dst/\i.op=op/\((o.guard=none/\i.g=none)\/∃j want t,o.guard=some (j,want)/\(ops[j]?).bind (·.dst)=some t/\t<nJ/\i.g=some (t,want)):=by
    unfold kV at h1;split at h1
    ·rename_i op hop;refine⟨op,hop,?_⟩;split at h1
     ·rename_i e;split at h1
      ·rename_i eg;cases h1;exact⟨e.symm,rfl,.inl ⟨eg,rfl⟩⟩
      ·rename_i j want eg;split at h1
       ·rename_i t ht;split at h1
        ·rename_i hlt;cases h1;exact⟨e.symm,rfl,.inr ⟨j,want,t,eg,ht,hlt,rfl⟩⟩
        ·cases h1
       ·cases h1
     ·rename_i d e;split at h1
      ·split at h1
       ·rename_i eg;cases h1;exact⟨e.symm,rfl,.inl ⟨eg,rfl⟩⟩
       ·rename_i j want eg;split at h1
        ·rename_i t ht;split at h1
         ·rename_i hlt;cases h1;exact⟨e.symm,rfl,.inr ⟨j,want,t,eg,ht,hlt,rfl⟩⟩
         ·cases h1
        ·cases h1
      ·cases h1
    ·cases h1
   have doit:bD P o.dst op s (λs'=>wpI P is' s' K)->o.wp P a w (wpList P ops Q l) Q:=λhs=>
    (step_ok h hd hop hs).wp λs' blk' a' w' k r=>ih r k hQ
   have skip:wpI P is' (s.put o.dst .und) K->wpList P ops Q l (a.put o.dst undef) w:=λhs=>
    ih (h.put hd (v:=undef) (x:=.und) (show undef=undef from rfl)) hs hQ
   rcases hg with⟨e1,e2⟩|⟨j,want,t,e1,e2,htl,e3⟩
   ·unfold wpList;rw[if_pos (by simp[Region.wanted,e1])];simp only[wpI,e2,hid,hiop]at hK;exact .inl (doit hK)
   ·simp only[wpI,e3,hid,hiop]at hK
    have hy:∀v:Bool,a.tmps.getD t undef=.bool v->yielded ops a.tmps j=some v:=by
     intro v hv;unfold yielded;rw[e2];simp only[zbF]
     have:a.tmps[t]?=some (.bool v):=by
      rw[zai]at hv;cases hq:a.tmps[t]? with
      |none=>rw[hq]at hv;simp[undef]at hv
      |some u=>rw[hq]at hv;simp at hv;rw[hv]
     rw[this]
    have hen:=h.at_ htl;unfold xO at hK;split at hK
    ·rename_i v hv;rw[hv]at hen;have hb:=hen.bool;unfold wpList
     by_cases e:v=want
     ·rw[if_pos (by simp[Region.wanted,e1,hy v hb,e])];exact .inl (doit (hK.1 e))
     ·rw[if_neg (by simp[Region.wanted,e1,hy v hb,e])];exact skip (hK.2 (by cases v<;>cases want<;>simp_all))
    ·rename_i hv;rw[hv]at hen;have hu:a.tmps.getD t undef=undef:=hen
     have hyn:yielded ops a.tmps j=none:=by
      unfold yielded;rw[e2];simp only[zbF];cases hq:a.tmps[t]? with
      |none=>rfl
      |some u=>
       have:u=undef:=by rw[zai,hq]at hu;simpa using hu
       rw[this];rfl
     unfold wpList;rw[if_neg (by simp[Region.wanted,e1,hyn])];exact skip hK
    ·exact hK.elim
  ·cases hc
end
end Go.Proofs.YtpiplmnecmkafaaGreat
namespace Go.Proofs.YtpiplmnecmkafaaGreat
open Go.RowKit
section
variable {g:Ghost} {s s':St} {a:Act} {w:World} {blk:Lay}
theorem Repr.call(h:Repr g s a w blk){w':World}(hb:Below w.heap.size w w'):Repr g s a w' blk:=by
 have:=h.turn [] (λ_=>False) (objs':=s.objs) (w':=w') (L':=blk) (X:=noF) (.of_below _ hb) (λ_ hq=>hq.elim) (λi _=>⟨by simp[Obj.jM],rfl,rfl⟩) (λ_ _ h=>h.elim) (λ_ _ _ h=>h.elim) (λ_ _ h=>h.elim) (λ_ h=>h.elim) (λ_ _ _ _ h=>h.elim) (λ_ _ _ h=>h.elim);exact this
end
def noO:Nat->Obj:=λ_=>.none
def noB:Nat->Option Nat:=λ_=>none
def lC(P:Program)(f:Nat)(args:List AV)(res:AV):Prop:=
 ∀(w:World) (G:Nat->Prop),(∀b,G b->b<w.heap.size)->∀vs:Array Value,vs.size=args.length->
  (∀(j:Nat) (x:AV),args[j]?=some x->∃u:Value,vs[j]?=some u/\RV w G noO noB u x)->
  Calls P f vs w λe w'=>∃v,e=.returned v/\Below w.heap.size w w'/\RV w' (λb=>G b\/(w.heap.size<=b/\b<w'.heap.size)) noO noB v res
def out1 (s:St) (x y:AV):Prop:=
 match x with
 | .c z=>y=.c z
 | .clip k rows=>y=.c (.sl k rows)\/y=.clip k rows
 | .nil _=>(∃k,y=.c (.sl k []))\/∃k,y=.nil k
 | .own id k n=>match s.ob id with
  | .row _ rows=>y=.c (.sl k (rows.take n))
  | .tr _ _ rows=>match pW (rows.take n)with
   |some r=>y=.c (.sl k r)
   |none=>False
  |_=>False
 | .cut id k lo n=>match s.ob id with
  | .row _ rows=>y=.c (.sl k ((rows.drop lo).take n))
  |_=>False
 | .sub id ver i j _ _=>match s.ob id with
  | .tr _ ver' rows=>ver'=ver/\match cellAt rows i.toNat j with
   |some c=>match c.shr with
    |some z=>y=.c z
    |none=>False
   |none=>False
  |_=>False
 | .elt cs=>y=.elt cs
 |_=>False
def qW(s:St):List AV->List AV->Prop
 |[],[]=>True
 |x::l,y::l'=>out1 s x y/\qW s l l'
 |_,_=>False
def iO(s:St)(x y:AV):Prop:=
 match x with
 | .agg l=>match y with
  | .agg l'=>qW s l l'
  |_=>False
 | .fn f l=>match y with
  | .fn f' l'=>f=f'/\qW s l l'
  |_=>False
 | .box id off=>match s.ob id with
  | .box cells=>match y with
   | .elt cs=>qW s (cells.drop off) (cs.map .c)
   |_=>False
  |_=>False
 |x=>out1 s x y
def sJ(s:St):List AV->List AV->Prop
 |[],[]=>True
 |x::l,y::l'=>iO s x y/\sJ s l l'
 |_,_=>False
def AV.yee:AV->Bool
 | .c _| .clip _ _| .nil _| .elt _=>true
 |_=>false
def AV.rP:AV->Bool
 | .agg l| .fn _ l=>l.all AV.yee
 |x=>x.yee
def AV.yeo:AV->Bool
 | .c (.sl _ _)=>false
 | .c _=>true
 |_=>false
def AV.ygR:AV->Bool
 | .agg l=>l.all AV.yeo
 |x=>x.yeo
def AV.scalar:AV->Bool
 | .tup l=>l.all AV.ygR
 |x=>x.ygR
def AV.wf1:AV->Prop
 | .c z=>z.WF
 | .elt cs=>∀z,z∈cs->z.WF
 |_=>True
def AV.wf:AV->Prop
 | .agg l| .fn _ l=>∀y,y∈l->y.wf1
 |x=>x.wf1
def yM:List AV->Prop
 |[]=>True
 |x::l=>x.wf/\yM l
section
variable {g:Ghost} {s:St} {a:Act} {w:World} {blk:Lay} {v:Value} {x y:AV}
def All(g:Ghost)(w:World)(b:Nat):Prop:=(g.G0 b\/g.F0 b)\/(g.w0.heap.size<=b/\b<w.heap.size)
theorem ynj(b:Nat)(h:Good g s.objs blk w b):All g w b:=h.1
theorem yoD(h:Repr g s a w blk){id b:Nat}(hl:s.objs id≠.none)(hf:blk.fp id b):All g w b:=by
 obtain⟨h1,h2⟩:=h.new id b hl hf;rcases h1 with h1|h1
 ·exact .inl (.inr h1)
 ·exact .inr ⟨h1,h2⟩
theorem yoz(h:Repr g s a w blk){b:Nat}(hb:All g w b):b<w.heap.size:=by
 rcases hb with(e|e)|e
 ·have:=h.g0 b e;have:=h.below.size;omega
 ·have:=h.f0 b e;have:=h.below.size;omega
 ·exact e.2
theorem ynd{G G':Nat->Prop}{O O':Nat->Obj}{bl bl':Nat->Option Nat}(hG:∀b,G b->G' b)(hx:x.yee=true)(h:RV1 w G O bl v x):RV1 w G' O' bl' v x:=by
 cases x<;>simp[AV.yee]at hx
 ·exact Rd.mono h hG (λ_ _ _ h=>h)
 ·exact h
 ·obtain⟨a,n,e,hr⟩:=h;exact⟨a,n,e,hr.mono hG (λ_ _ _ h=>h)⟩
 ·obtain⟨ad,e,hc⟩:=h;exact⟨ad,e,λj c hj=>let⟨hg,u,hu,hr⟩:=hc j c hj;⟨hG _ hg,u,hu,hr.mono hG (λ_ _ _ h=>h)⟩⟩
theorem yeF{G:Nat->Prop}{A:Option Addr}{k:Nat}:Rd w G (.slice A 0 0) (.sl k []):=.sl (λ_ _=>default) rfl (Nat.le_refl _) (by unfold maxLen;omega) (by simp) (by simp) (by simp) (by simp)
theorem yd2(h:Repr g s a w blk){G':Nat->Prop}(hG:∀b,Good g s.objs blk w b->G' b)(hF:∀id,id∈x.iG->s.objs id≠.none->∀b,blk.fp id b->G' b)(hx:RV1 w (Good g s.objs blk w) s.objs blk v x)(ho:out1 s x y):RV1 w G' noO noB v y:=by
 unfold out1 at ho;split at ho
 ·subst ho;exact Rd.mono hx hG (λ_ _ _ h=>h)
 ·obtain⟨a',n',e',hr⟩:=hx;rcases ho with rfl|rfl
  ·exact Rd.mono hr hG (λ_ _ _ h=>h)
  ·exact⟨a',n',e',Rd.mono hr hG (λ_ _ _ h=>h)⟩
 ·rcases ho with⟨k,rfl⟩|⟨k,rfl⟩
  ·cases hx;exact yeF
  ·exact hx
 ·rename_i id k n;split at ho
  ·rename_i k2 rows hO;subst ho
   have hk:k2=k:=by
    obtain⟨m,hd,_⟩:=hx;have:(s.ob id).xJ=some (k,m):=hd;rw[hO]at this;simp[Obj.xJ]at this;exact this.1
   subst hk;obtain⟨_,hl,hot⟩:=yby h hx (c:=.ow k2 (rows.take n)) (ids:=[id]) (by simp[pk1,hO]);exact hot.yeH rfl hG (λb hb=>hF id (by simp[AV.iG]) hl b hb)
  ·rename_i k2 ver rows hO;split at ho
   ·rename_i r hr;subst ho
    have hk:k2=k:=by
     obtain⟨m,hd,_⟩:=hx;have:(s.ob id).xJ=some (k,m):=hd;rw[hO]at this;simp[Obj.xJ]at this;exact this.1
    subst hk;obtain⟨_,hl,hot⟩:=yby h hx (c:=.ot k2 (rows.take n)) (ids:=[id]) (by simp[pk1,hO]);exact hot.yeH (by simp[C.shr,hr]) hG (λb hb=>hF id (by simp[AV.iG]) hl b hb)
   ·exact ho.elim
  ·exact ho.elim
 ·rename_i id k lo n;split at ho
  ·rename_i k2 rows hO;subst ho;obtain⟨m,A,c,hd,hle,rfl,h1,h2,h3⟩:=hx
   have hk:k2=k/\rows.length=m:=by
    have:(s.ob id).xJ=some (k,m):=hd;rw[hO]at this;simpa[Obj.xJ]using this
   obtain⟨rfl,rfl⟩:=hk;have hlen:((rows.drop lo).take n).length=n:=by simp;omega
   rcases zaK n with h0|h0
   ·subst h0;simp only[zcU];exact Rd.sl (λ_ _=>default) rfl h1 h2 (by simp) (by simp) (by simp) (by simp)
   ·obtain⟨b,hb,rfl⟩:=h3 h0;obtain⟨arr,e,r1,r2,r3,r4⟩:=h.row hO hb;have hl:s.objs id≠.none:=by rw[show s.objs id=_ from hO];simp
    have get:∀(i:Nat) (r:List C),((rows.drop lo).take n)[i]?=some r->rows[lo+i]?=some r:=by
     intro i r hr;rw[zas]at hr;split at hr
     ·rw[zaF]at hr;exact hr
     ·cases hr
    refine Rd.sl (λi j=>(arr[(lo+i)*k2+j]?).getD default) hlen h1 h2 (λr hr=>r3 r (zby (zaP hr))) (λ_=>rfl) (λi r hr j c hc=>?_) (λi r hr j c hc=>?_)
    ·obtain⟨u,hu,hru⟩:=r4 _ r j c (get i r hr) hc;refine⟨_,rfl,hF id (by simp[AV.iG]) hl b (.inl hb),?_⟩;rw[add_lit,cell_of w r1,show lo*k2+(i*k2+j)=(lo+i)*k2+j by rw[zaz];omega,hu];rfl
    ·obtain⟨u,hu,hru⟩:=r4 _ r j c (get i r hr) hc;rw[hu];exact hru.mono hG (λ_ _ _ h=>h)
  ·exact ho.elim
 ·rename_i id ver i j k n;split at ho
  ·rename_i k0 ver' rows hO;obtain⟨rfl,ho⟩:=ho;split at ho
   ·rename_i c hc;split at ho
    ·rename_i z hz;subst ho;obtain⟨q,r,c',A,cap,F,e1,e2,e3,e4,e5,e6,e7,e8,e9,e10⟩:=h.sub0 hO (RVs.of1 hx);obtain⟨r',f1,f2⟩:=aZ hc;rw[e3]at f1;cases f1;rw[e4]at f2;cases f2;have hl:s.objs id≠.none:=by rw[show s.objs id=_ from hO];simp
     exact e9.yeH hz hG (λb hb=>hF id (by simp[AV.iG]) hl b (.inr (e10 b hb).1))
    ·exact ho.elim
   ·exact ho.elim
  ·exact ho.elim
 ·subst ho;obtain⟨ad,e,hc⟩:=hx;exact⟨ad,e,λj c hj=>let⟨hg,u,hu,hr⟩:=hc j c hj;⟨hG _ hg,u,hu,hr.mono hG (λ_ _ _ h=>h)⟩⟩
 ·exact ho.elim
theorem ygP(h:Repr g s a w blk){G':Nat->Prop}(hG:∀b,All g w b->G' b)(hx:RV1 w (Good g s.objs blk w) s.objs blk v x)(ho:out1 s x y):RV1 w G' noO noB v y:=
 yd2 h (λb hb=>hG b (ynj b hb)) (λ_ _ hl b hb=>hG b (yoD h hl hb)) hx ho
theorem dV:∀{l l':List AV},qW s l l'->l'.length=l.length/\∀(j:Nat) (y:AV),l'[j]?=some y->∃x,l[j]?=some x/\out1 s x y
 |[],[],_=>⟨rfl,λj y hj=>by simp at hj⟩
 |x::l,y::l',h=>by
  obtain⟨h1,h2⟩:=dV h.2;refine⟨by simp[h1],λj z hj=>?_⟩;cases j with
  |zero=>simp at hj;subst hj;exact⟨x,rfl,h.1⟩
  |succ j=>exact h2 j z (by simpa using hj)
theorem qQ:∀{l l':List AV},sJ s l l'->l'.length=l.length/\∀(j:Nat) (y:AV),l'[j]?=some y->∃x,l[j]?=some x/\iO s x y
 |[],[],_=>⟨rfl,λj y hj=>by simp at hj⟩
 |x::l,y::l',h=>by
  obtain⟨h1,h2⟩:=qQ h.2;refine⟨by simp[h1],λj z hj=>?_⟩;cases j with
  |zero=>simp at hj;subst hj;exact⟨x,rfl,h.1⟩
  |succ j=>exact h2 j z (by simpa using hj)
theorem yk1{G:Nat->Prop}{O:Nat->Obj}{bl:Nat->Option Nat}(h:RV1 w G O bl v x):RV w G O bl v x:=by
 cases x<;>first|exact h|exact h.elim
theorem ykN{G:Nat->Prop}{O:Nat->Obj}{bl:Nat->Option Nat}(h:RV1 w G O bl v x):RV2 w G O bl v x:=by
 cases x<;>first|exact h|exact h.elim
theorem ybb{G:Nat->Prop}{O:Nat->Obj}{bl:Nat->Option Nat}(h:RV2 w G O bl v x):RV w G O bl v x:=by
 cases x<;>first|exact h|exact h.elim
theorem ydu(h:Repr g s a w blk){G':Nat->Prop}(hG:∀b,All g w b->G' b)(hx:RVs g s w blk v x)(ho:iO s x y):RV2 w G' noO noB v y:=by
 unfold iO at ho;split at ho
 ·rename_i l;split at ho
  ·rename_i l';obtain⟨arr,e,hs,hl⟩:=hx;obtain⟨h1,h2⟩:=dV ho;refine⟨arr,e,by omega,λj z hj=>?_⟩;obtain⟨x,hx,hxy⟩:=h2 j z hj;obtain⟨u,hu,hru⟩:=hl j x hx;exact⟨u,hu,ygP h hG hru hxy⟩
  ·exact ho.elim
 ·rename_i f l;split at ho
  ·rename_i f' l';obtain⟨rfl,ho⟩:=ho;obtain⟨arr,e,hs,hl⟩:=hx;obtain⟨h1,h2⟩:=dV ho;refine⟨arr,e,by omega,λj z hj=>?_⟩;obtain⟨x,hx,hxy⟩:=h2 j z hj;obtain⟨u,hu,hru⟩:=hl j x hx;exact⟨u,hu,ygP h hG hru hxy⟩
  ·exact ho.elim
 ·rename_i id off;split at ho
  ·rename_i cells hO;split at ho
   ·rename_i cs;obtain⟨b,cells',hO',hb,rfl⟩:=hx;obtain⟨arr,e,r1,r2,r3⟩:=h.box hO hb;have hl:s.objs id≠.none:=by rw[show s.objs id=_ from hO];simp
    obtain⟨h1,h2⟩:=dV ho;refine⟨_,rfl,λj c hj=>?_⟩;obtain⟨x,hx,hxy⟩:=h2 j (.c c) (by simp[hj]);rw[zaF]at hx;obtain⟨u,hu,hru⟩:=r3 _ x hx;refine⟨hG b (yoD h hl (.inl hb)),u,by rw[add_lit,cell_of w r1];exact hu,?_⟩;exact ygP h hG hru hxy
   ·exact ho.elim
  ·exact ho.elim
 ·refine ykN (ygP h hG ?_ ho);cases x<;>first|exact hx|exact ho.elim|(rename_i h1 h2 h3;exact(h1 _ rfl).elim)|(rename_i h1 h2 h3;exact(h2 _ _ rfl).elim)
theorem ydF{G':Nat->Prop}(hG:∀b,Good g s.objs blk w b->G' b)(hx:RVs g s w blk v x)(hd:x.rP=true)(ho:iO s x y):RV w G' noO noB v y:=by
 have one:∀{v:Value} {x y:AV},x.yee=true->RV1 w (Good g s.objs blk w) s.objs blk v x->out1 s x y->RV1 w G' noO noB v y:=by
  intro v x y hd hx ho;have:=ynd (O':=noO) (bl':=noB) hG hd hx;cases x<;>simp[AV.yee]at hd
  ·cases ho;exact this
  ·rcases ho with⟨k,rfl⟩|⟨k,rfl⟩
   ·cases hx;exact yeF
   ·exact this
  ·rcases ho with rfl|rfl
   ·obtain⟨_,_,_,hr⟩:=this;exact hr
   ·exact this
  ·cases ho;exact this
 cases x
 case agg l=>
  unfold iO at ho;simp only at ho;split at ho
  ·rename_i l';obtain⟨arr,e,hs,hl⟩:=hx;obtain⟨h1,h2⟩:=dV ho;refine⟨arr,e,by omega,λj z hj=>?_⟩;obtain⟨x,hx,hxy⟩:=h2 j z hj;obtain⟨u,hu,hru⟩:=hl j x hx;exact⟨u,hu,one (zae.1 hd x (zac hx)) hru hxy⟩
  ·exact ho.elim
 case fn f l=>
  unfold iO at ho;simp only at ho;split at ho
  ·rename_i f' l';obtain⟨rfl,ho⟩:=ho;obtain⟨arr,e,hs,hl⟩:=hx;obtain⟨h1,h2⟩:=dV ho;refine⟨arr,e,by omega,λj z hj=>?_⟩;obtain⟨x,hx,hxy⟩:=h2 j z hj;obtain⟨u,hu,hru⟩:=hl j x hx;exact⟨u,hu,one (zae.1 hd x (zac hx)) hru hxy⟩
  ·exact ho.elim
 case c z=>
  have ho':out1 s (.c z) y:=ho;exact yk1 (one (x:=.c z) rfl (RVs.one1 hx rfl) ho')
 case nil k=>
  have ho':out1 s (.nil k) y:=ho;exact yk1 (one (x:=.nil k) rfl (RVs.one1 hx rfl) ho')
 case clip k rows=>
  have ho':out1 s (.clip k rows) y:=ho;exact yk1 (one (x:=.clip k rows) rfl (RVs.one1 hx rfl) ho')
 case elt cs=>
  have ho':out1 s (.elt cs) y:=ho;exact yk1 (one (x:=.elt cs) rfl (RVs.one1 hx rfl) ho')
 all_goals exact absurd hd (by simp[AV.rP,AV.yee])
theorem yik{G G':Nat->Prop}{O:Nat->Obj}{bl:Nat->Option Nat}(hG:∀b,G b->G' b)(h:RV1 w G noO noB v x):RV1 w G' O bl v x:=by
 cases x with
 |any=>trivial
 |und=>exact h
 |c x=>exact Rd.mono h hG (λ_ _ _ h=>h)
 |nil k=>exact h
 |clip k rows=>obtain⟨a,n,e,hr⟩:=h;exact⟨a,n,e,hr.mono hG (λ_ _ _ h=>h)⟩
 |box id off=>obtain⟨b,cells,ho,r⟩:=h;cases ho
 |row id k i off=>obtain⟨b,cells,ho,r⟩:=h;cases ho
 |elt cs=>obtain⟨ad,e,hc⟩:=h;exact⟨ad,e,λj c hj=>let⟨hg,u,hu,hr⟩:=hc j c hj;⟨hG _ hg,u,hu,hr.mono hG (λ_ _ _ h=>h)⟩⟩
 |own id k n=>obtain⟨rows,ho,r⟩:=h;cases ho
 |sub id ver i j k n=>obtain⟨_,_,_,ho,r⟩:=h;cases ho
 |oP id ver i j k i' off=>obtain⟨_,_,_,ho,r⟩:=h;cases ho
 |mpr id=>obtain⟨_,_,ho,r⟩:=h;cases ho
 |gl b o=>exact⟨hG _ h.1,h.2⟩
 |cut id k lo n=>obtain⟨_,_,_,ho,r⟩:=h;cases ho
 |fn f l=>exact h
 |agg l=>exact h
 |tup l=>exact h
theorem yng{G G':Nat->Prop}{O:Nat->Obj}{bl:Nat->Option Nat}(hG:∀b,G b->G' b)(h:RV2 w G noO noB v x):RV2 w G' O bl v x:=by
 cases x
 case agg l=>obtain⟨arr,e,hs,hl⟩:=h;exact⟨arr,e,hs,λj x hj=>let⟨u,hu,hr⟩:=hl j x hj;⟨u,hu,yik hG hr⟩⟩
 case fn f l=>obtain⟨arr,e,hs,hl⟩:=h;exact⟨arr,e,hs,λj x hj=>let⟨u,hu,hr⟩:=hl j x hj;⟨u,hu,yik hG hr⟩⟩
 all_goals(simp only[RV2]at h|-;exact yik hG h)
theorem ya5{G G':Nat->Prop}{O:Nat->Obj}{bl:Nat->Option Nat}(hG:∀b,G b->G' b)(h:RV w G noO noB v x):RV w G' O bl v x:=by
 cases x
 case tup l=>obtain⟨arr,e,hs,hl⟩:=h;exact⟨arr,e,hs,λj x hj=>let⟨u,hu,hr⟩:=hl j x hj;⟨u,hu,yng hG hr⟩⟩
 all_goals(simp only[RV]at h|-;exact yng hG h)
theorem yhJ{G G':Nat->Prop}{O:Nat->Obj}{bl:Nat->Option Nat}(hx:x.yeo=true)(h:RV1 w G noO noB v x):RV1 w G' O bl v x:=by
 cases x<;>simp[AV.yeo]at hx;rename_i c;have hr:Rd w G v c:=h;cases c<;>simp at hx<;>cases hr
 ·exact Rd.i ‹_›
 ·exact Rd.b
 ·exact Rd.u ‹_›
 ·exact Rd.q ‹_›
 ·exact Rd.s ‹_›
theorem yiT{G G':Nat->Prop}{O:Nat->Obj}{bl:Nat->Option Nat}(hx:x.ygR=true)(h:RV2 w G noO noB v x):RV2 w G' O bl v x:=by
 cases x
 case agg l=>obtain⟨arr,e,hs,hl⟩:=h;exact⟨arr,e,hs,λj x hj=>let⟨u,hu,hr⟩:=hl j x hj;⟨u,hu,yhJ (zae.1 hx x (zac hj)) hr⟩⟩
 case fn f l=>simp[AV.ygR,AV.yeo]at hx
 all_goals(simp only[RV2]at h|-;exact yhJ hx h)
theorem yD{G G':Nat->Prop}{O:Nat->Obj}{bl:Nat->Option Nat}(hx:x.scalar=true)(h:RV w G noO noB v x):RV w G' O bl v x:=by
 cases x
 case tup l=>obtain⟨arr,e,hs,hl⟩:=h;exact⟨arr,e,hs,λj x hj=>let⟨u,hu,hr⟩:=hl j x hj;⟨u,hu,yiT (zae.1 hx x (zac hj)) hr⟩⟩
 all_goals(simp only[RV]at h|-;exact yiT hx h)
end
section
variable {P:Program} {f:Nat} {s:St} {d:Option Nat} {avs args:List AV} {res:AV} {K:St->Prop}
theorem mF(hp:lC P f args res)(ho:sJ s avs args)(hs:res.scalar=true)(hK:K (s.put d res)):gW P f avs d s K:=by
 intro g a w blk h hd vs hvs hv;obtain⟨h1,h2⟩:=qQ ho;refine(hp w (All g w) (λb hb=>yoz h hb) vs (by omega) (λj y hj=>?_)).mono ?_
 ·obtain⟨x,hx,hxy⟩:=h2 j y hj;obtain⟨u,hu,hru⟩:=hv j x hx;exact⟨u,hu,ybb (ydu h (λ_ h=>h) hru hxy)⟩
 ·rintro e w' ⟨v,rfl,hb,hr⟩
  exact⟨v,rfl,_,blk,hK,(h.call hb).put hd (yD hs hr)⟩
theorem nI(hp:lC P f args res)(ho:sJ s avs args)(hdat:avs.all AV.rP=true)(hK:K (s.put d res)):gW P f avs d s K:=by
 intro g a w blk h hd vs hvs hv;obtain⟨h1,h2⟩:=qQ ho;refine(hp w (Good g s.objs blk w) (λb hb=>aW h hb) vs (by omega) (λj y hj=>?_)).mono ?_
 ·obtain⟨x,hx,hxy⟩:=h2 j y hj;obtain⟨u,hu,hru⟩:=hv j x hx;exact⟨u,hu,ydF (λ_ h=>h) hru (zae.1 hdat x (zac hx)) hxy⟩
 ·rintro e w' ⟨v,rfl,hb,hr⟩
  have h':=h.call hb;refine⟨v,rfl,_,blk,hK,h'.put hd (ya5 (λb hb'=>?_) hr)⟩;rcases hb' with hg|⟨e1,e2⟩
  ·refine⟨?_,hg.2⟩;rcases hg.1 with e|e
   ·exact .inl e
   ·exact .inr ⟨e.1,by have:=hb.size;omega⟩
  ·refine⟨.inr ⟨by have:=h.below.size;omega,e2⟩,λid hid e=>?_⟩;have:=(h.new id b hid e).2;omega
end
end Go.Proofs.YtpiplmnecmkafaaGreat
namespace Go.Proofs.YtpiplmnecmkafaaGreat
open Go.RowKit
def oM(ob:Nat->Obj):St:=⟨λ_=>.any,ob⟩
def ykm(P:Program)(f:Nat)(avs:List AV)(ob:Nat->Obj)(k:AV->Prop):Prop:=
 ∃args res,lC P f args res/\sJ (oM ob) avs args/\(avs.all AV.rP=true\/res.scalar=true)/\k res
def ybd(P:Program)(f:AV)(avs:List AV)(ob:Nat->Obj)(k:AV->Prop):Prop:=
 match f with
 | .fn f l=>(∃fn,P.funcs[f]?=some fn∧fn.body.isSome=true∧(fn.name != "runtime.NumGoroutine")=true)∧ykm P f (avs++l) ob k
 |_=>False
def sF(P:Program)(op:IOp)(ev:X->AV)(ob:Nat->Obj)(k:AV->Prop):Prop:=
 match op with
 | .mv x=>k (ev x)
 | .pick c a b=>yI (ev c) (ev a) (ev b) k
 | .bin op x y=>yi5 op (ev x) (ev y) k
 | .beq n x y=>ygh n (ev x) (ev y) k
 | .not x=>notP (ev x) k
 | .neg x=>yhS (ev x) k
 | .idx n x i=>ybU n (oM ob) (ev x) (ev i) k
 | .ida m n x i=>ygZ m n (ev x) (ev i) k
 | .fld off x=>ycb off (oM ob) (ev x) k
 | .ld1 x=>ybf (oM ob) (ev x) k
 | .ldn n x=>ybH n (oM ob) (ev x) k
 | .slc n x lo hi mx=>ya6 n (ev x) (lo.map ev) (hi.map ev) (mx.map ev) k
 | .sla m n x h=>yeC m n (oM ob) (ev x) (ev h) k
 | .len x=>ybk (oM ob) (ev x) k
 | .slen x=>ycd (ev x) k
 | .mn xs=>mmP (λx y=>if y<x then y else x) (xs.map ev) k
 | .mx xs=>mmP (λx y=>if x<y then y else x) (xs.map ev) k
 | .ext i x=>ygj i (ev x) k
 | .call f xs=>ykm P f (xs.map ev) ob k
 | .ixs x i=>yie (ev x) (ev i) k
 | .nck x=>ye5 (ev x) k
 | .cvt 0 x=>bW 0 (oM ob) (ev x) k
 | .cvt 1 x=>bW 1 (oM ob) (ev x) k
 | .cvt 3 x=>bW 3 (oM ob) (ev x) k
 | .seq n x y=>ygy n (ev x) (ev y) k
 | .eqn n q x y=>yg6 n q (ev x) (ev y) k
 | .scat x y=>yca (ev x) (ev y) k
 | .bit op x y=>yb0 op (ev x) (ev y) k
 | .binu op x y=>xW op (ev x) (ev y) k
 | .binw op x y=>ybP op (ev x) (ev y) k
 | .sls x lo hi=>ye0 (ev x) (lo.map ev) (hi.map ev) k
 | .mkf f xs=>(xs.map ev).all AV.bF=true/\k (.fn f (xs.map ev))
 | .bld zs ps=>eY ⟨λt=>ev (.t t),ob⟩ ps zs λl=>k (.agg l)
 | .callv f xs=>ybd P (ev f) (xs.map ev) ob k
 |_=>False
def yaF(P:Program)(i:Ins)(ev:X->AV)(ob:Nat->Obj)(k:AV->Prop):Prop:=
 match i.g with
 |none=>sF P i.op ev ob k
 |some (t,want)=>xO (ev (.t t)) want (sF P i.op ev ob k) (k .und)
def wpQ(P:Program):List Ins->St->(St->Prop)->Prop
 |[],s,K=>K s
 |i::l,s,K=>yaF P i s.ev s.objs λv=>wpQ P l (s.put i.d v) K
section
variable {P:Program} {g:Ghost} {s:St} {a:Act} {w:World} {blk:Lay} {ev ev':X->AV} {ob:Nat->Obj} {k:AV->Prop}
theorem yiM{x:X}(hk:∀a,ev (.k a)=ev' (.k a))(h:∀t,t∈x.tm->ev (.t t)=ev' (.t t)):ev x=ev' x:=by
 cases x with
 |t n=>exact h n (by simp[X.tm])
 |k a=>exact hk a
theorem ynq{x:Option X}(hk:∀a,ev (.k a)=ev' (.k a))(h:∀t,t∈X.tmo x->ev (.t t)=ev' (.t t)):x.map ev=x.map ev':=by
 cases x with
 |none=>rfl
 |some x=>simp only[zaB];rw[yiM hk h]
theorem yr4(hk:∀a,ev (.k a)=ev' (.k a)):∀{xs:List X},(∀t,t∈xs.flatMap X.tm->ev (.t t)=ev' (.t t))->xs.map ev=xs.map ev'
 |[],_=>rfl
 |x::xs,h=>by
  simp only[zaD];rw[yiM hk (λt ht=>h t (by simp[ht])),yr4 hk (xs:=xs) (λt ht=>h t (by rw[zbt];exact zaw _ ht))]
theorem xX{s s':St}{K:List AV->Prop}:∀{ps:List (Nat×Nat×X)} {l:List AV},(∀x,x∈ps.map (λp=>p.2.2)->s.ev x=s'.ev x)->eY s ps l K=eY s' ps l K
 |[],l,_=>rfl
 |(o,n,x)::ps,l,h=>by
  simp only[eY];rw[h x (by simp),xX (ps:=ps) (λy hy=>h y (by simp at hy|-;exact .inr hy))]
theorem yiF{op:IOp}{l:List Nat}(hl:op.reads=some l)(hk:∀a,ev (.k a)=ev' (.k a))(h:∀t,t∈l->ev (.t t)=ev' (.t t)):sF P op ev ob k=sF P op ev' ob k:=by
 unfold IOp.reads at hl;split at hl<;>first|cases hl|skip
 all_goals simp only[sF]
 all_goals first
  |rw[yiM hk h]
  |rw[h _ (by simp)]
  |rw[yr4 hk h]
  |(rename_i f xs;rw[yiM (x:=f) hk (λt ht=>h t (by simp[ht])),yr4 (xs:=xs) hk (λt ht=>h t (zaw _ ht))])
  |(rename_i zs ps;refine xX λx hx=>?_;cases x with
   |t n=>exact h n (zav.2 ⟨_,hx,by simp[X.tm]⟩)
   |k a=>rfl)
  |(rename_i c a b;rw[yiM (x:=c) hk (λt ht=>h t (by simp[ht])),yiM (x:=a) hk (λt ht=>h t (by simp[ht])),yiM (x:=b) hk (λt ht=>h t (by simp[ht]))])
  |(rename_i x y;rw[yiM (x:=x) hk (λt ht=>h t (by simp[ht])),yiM (x:=y) hk (λt ht=>h t (by simp[ht]))])
  |(rename_i x lo hi;rw[yiM (x:=x) hk (λt ht=>h t (by simp[ht])),ynq (x:=lo) hk (λt ht=>h t (by simp[ht])),ynq (x:=hi) hk (λt ht=>h t (by simp[ht]))])
  |(rename_i x lo hi m;rw[yiM (x:=x) hk (λt ht=>h t (by simp[ht])),ynq (x:=lo) hk (λt ht=>h t (by simp[ht])),ynq (x:=hi) hk (λt ht=>h t (by simp[ht])),ynq (x:=m) hk (λt ht=>h t (by simp[ht]))])
theorem yoc{i:Ins}{l:List Nat}(hl:i.reads=some l)(hk:∀a,ev (.k a)=ev' (.k a))(h:∀t,t∈l->ev (.t t)=ev' (.t t)):yaF P i ev ob k=yaF P i ev' ob k:=by
 unfold Ins.reads at hl;simp only[zak]at hl;obtain⟨m,hm,rfl⟩:=hl;unfold yaF;cases hg:i.g with
 |none=>rw[hg]at h;exact yiF hm hk h
 |some p=>
  obtain⟨t,want⟩:=p;rw[hg]at h;simp only at h|-;rw[h t (by simp),yiF hm hk (λt ht=>h t (by simp[ht]))]
theorem yeh(s:St):∀(l l':List AV),qW (oM s.objs) l l'=qW s l l'
 |[],[]=>rfl
 |[],_::_=>rfl
 |_::_,[]=>rfl
 |x::l,y::l'=>by
  simp only[qW,yeh s l l'];rfl
theorem yuy(s:St)(x y:AV):iO (oM s.objs) x y=iO s x y:=by
 have e:∀id,(oM s.objs).ob id=s.ob id:=λ_=>rfl;unfold iO;split
 ·split
  ·exact yeh s _ _
  ·rfl
 ·split
  ·rw[yeh]
  ·rfl
 ·rw[e];split
  ·split
   ·exact yeh s _ _
   ·rfl
  ·rfl
 ·rfl
theorem nS(s:St):∀(l l':List AV),sJ (oM s.objs) l l'=sJ s l l'
 |[],[]=>rfl
 |[],_::_=>rfl
 |_::_,[]=>rfl
 |x::l,y::l'=>by
  simp only[sJ,nS s l l',yuy]
theorem yjo{op:IOp}{l:List Nat}(hl:op.reads=some l){d:Option Nat}{K:St->Prop}(h:sF P op s.ev s.objs λv=>K (s.put d v)):bD P d op s K:=by
 unfold IOp.reads at hl;split at hl<;>first|cases hl|skip
 all_goals simp only[sF]at h
 all_goals simp only[bD]
 all_goals first
  |exact h
  | (obtain⟨args,res,h1,h2,h3,h4⟩:=h
     rw[nS]at h2;rcases h3 with h3|h3
     ·exact nI h1 h2 h3 h4
     ·exact mF h1 h2 h3 h4)
  | (rename_i f xs
     revert h;generalize s.ev f=fv;intro h;unfold ybd at h;unfold yb1;split at h
     ·obtain⟨hf,args,res,h1,h2,h3,h4⟩:=h;rw[nS]at h2;refine⟨hf,?_⟩;rcases h3 with h3|h3
      ·exact nI h1 h2 h3 h4
      ·exact mF h1 h2 h3 h4
     ·exact h.elim)
  |(rw[<-xX (s:=⟨λt=>s.ev (.t t),s.objs⟩) (s':=s) (λx _=>by cases x<;>rfl)];exact h)
def kM(F:(AV->Prop)->Prop):Prop:=∀k:AV->Prop,F k->∃r,k r/\∀k':AV->Prop,k' r->F k'
theorem kM.fJ(r:AV):kM λk=>k r:=λ_ h=>⟨r,h,λ_ h=>h⟩
theorem kM.fE:kM λ_=>False:=λ_ h=>h.elim
theorem kM.and(p:Prop){F:(AV->Prop)->Prop}(h:kM F):kM λk=>p/\F k:=λk ⟨hp,hk⟩=>let⟨r,h1,h2⟩:=h k hk;⟨r,h1,λk' h'=>⟨hp,h2 k' h'⟩⟩
theorem kM.imp{p:Prop}(hp:p){F:(AV->Prop)->Prop}(h:kM F):kM λk=>p->F k:=λk hk=>let⟨r,h1,h2⟩:=h k (hk hp);⟨r,h1,λk' h' _=>h2 k' h'⟩
theorem yqo(c a b:AV):kM (yI c a b):=by
 unfold yI;split
 ·split
  ·exact .fJ _
  ·rename_i t _ _ _;intro k h;cases t
   ·exact⟨_,h.2 rfl,λk' h'=>⟨λe=>(by cases e),λ_=>h'⟩⟩
   ·exact⟨_,h.1 rfl,λk' h'=>⟨λ_=>h',λe=>(by cases e)⟩⟩
 ·exact .fE
theorem ytb(op:BinOp)(x y:AV):kM (yi5 op x y):=by
 unfold yi5;split
 ·unfold ydf;split<;>first|exact .fJ _|exact .fE|exact .and _ (.fJ _)|exact .and _ (.and _ (.fJ _))
 ·exact .fE
theorem ytr(n:Bool)(x y:AV):kM (ygh n x y):=by
 unfold ygh;split<;>first|exact .fJ _|exact .fE
theorem yr6(x:AV):kM (notP x):=by unfold notP;split<;>first|exact .fJ _|exact .fE
theorem ysd(x:AV):kM (yhS x):=by unfold yhS;split<;>first|exact .and _ (.fJ _)|exact .fE
theorem ys5(n:Nat)(s:St)(x y:AV):kM (ybU n s x y):=by
 unfold ybU;split
 case h_5=>split<;>first|exact .and _ (.and _ (.and _ (.and _ (.fJ _))))|exact .fE
 all_goals first|exact .and _ (.and _ (.and _ (.fJ _)))|exact .fE
theorem ytL(m n:Nat)(x y:AV):kM (ygZ m n x y):=by unfold ygZ;split<;>first|exact .and _ (.and _ (.and _ (.and _ (.fJ _))))|exact .fE
theorem ytC(n:Nat)(s:St)(x:AV):kM (ycb n s x):=by
 unfold ycb;split
 case h_4=>split<;>first|exact .and _ (.fJ _)|exact .fE
 all_goals first|exact .fJ _|exact .fE
theorem yrU(x:AV):kM (ye5 x):=by unfold ye5;split<;>first|exact .fJ _|exact .fE
theorem yhk(n:Nat)(hn:n=0\/n=1\/n=3)(s:St)(x:AV):kM (bW n s x):=by
 rcases hn with rfl|rfl|rfl
 ·unfold bW;simp only;split<;>first|exact .fJ _|exact .and _ (.fJ _)|exact .fE
 ·unfold bW;simp only;split<;>first|exact .fJ _|exact .fE
 ·unfold bW;simp only;split<;>first|exact .and _ (.fJ _)|exact .fE
theorem yr9(n:Bool)(q:Nat)(x y:AV):kM (yg6 n q x y):=by
 unfold yg6;split
 ·split
  ·rename_i m n' _ _
   by_cases h:m.length=q/\n'.length=q
   ·simp only[h.1,h.2,true_and];exact .fJ _
   ·have:∀k:Prop,(m.length=q/\n'.length=q/\k)=False:=λk=>by simp only[eq_iff_iff,iff_false];exactλe=>h ⟨e.1,e.2.1⟩
    simp only[this];exact .fE
  ·exact .fE
 ·exact .fE
theorem ytw(n:Bool)(x y:AV):kM (ygy n x y):=by unfold ygy;split<;>first|exact .fJ _|exact .fE
theorem yqA(x y:AV):kM (yca x y):=by unfold yca;split<;>first|exact .and _ (.fJ _)|exact .fE
theorem yty(op:BinOp)(x y:AV):kM (yb0 op x y):=by
 unfold yb0;split
 ·split<;>first|exact .fJ _|exact .and _ (.fJ _)|exact .fE
 ·split<;>first|exact .fJ _|exact .and _ (.fJ _)|exact .fE
 ·exact .fE
theorem yqv(op:BinOp)(x y:AV):kM (xW op x y):=by
 unfold xW;split
 ·split<;>first|exact .fJ _|exact .fE
 ·exact .fE
theorem yq8(op:BinOp)(x y:AV):kM (ybP op x y):=by
 unfold ybP;split
 ·split<;>first|exact .fJ _|exact .fE
 ·exact .fE
theorem ytg(x:AV)(lo hi:Option AV):kM (ye0 x lo hi):=by
 unfold ye0;split<;>first|exact .fE|exact .and _ (.and _ (.fJ _))|exact .and _ (.and _ (.and _ (.fJ _)))
theorem ysW(s:St)(x:AV):kM (ybf s x):=by
 unfold ybf;split
 ·split
  ·split<;>first|exact .fJ _|exact .fE
  ·exact .fE
 ·split<;>first|exact .and _ (.and _ (.and _ (.fJ _)))|exact .fE
 ·split
  ·refine .and _ ?_;split<;>first|exact .and _ (.and _ (.and _ (.fJ _)))|exact .fE
  ·exact .fE
 ·split<;>first|exact .fJ _|exact .fE
 ·exact .fE
theorem yse(n:Nat)(s:St)(x:AV):kM (ybH n s x):=by
 unfold ybH;split
 ·split<;>first|exact .and _ (.fJ _)|exact .fE
 ·split<;>first|exact .and _ (.and _ (.and _ (.fJ _)))|exact .fE
 ·split
  ·refine .and _ ?_;split<;>first|exact .and _ (.and _ (.and _ (.fJ _)))|exact .fE
  ·exact .fE
 ·exact .and _ (.fJ _)
 ·exact .fE
theorem yr2(n:Nat)(x:AV)(lo hi m:Option AV):kM (ya6 n x lo hi m):=by
 unfold ya6;split<;>first|exact .fE|exact .and _ (.fJ _)|exact .and _ (.and _ (.fJ _))|exact .and _ (.and _ (.and _ (.fJ _)))|exact .and _ (.and _ (.and _ (.and _ (.fJ _))))|exact .and _ (.and _ (.and _ (.and _ (.and _ (.fJ _)))))
theorem yt0(m n:Nat)(s:St)(x y:AV):kM (yeC m n s x y):=by
 unfold yeC;split
 ·split<;>first|exact .fE|exact .and _ (.and _ (.and _ (.and _ (.and _ (.fJ _)))))
 ·exact .fE
theorem yuI(f:Int->Int->Int)(l:List AV):kM (mmP f l):=by unfold mmP;split<;>first|exact .fJ _|exact .fE
theorem ysH(i:Nat)(x:AV):kM (ygj i x):=by
 unfold ygj;split
 ·split<;>first|exact .fJ _|exact .fE
 ·exact .fE
theorem ys8(x y:AV):kM (yie x y):=by unfold yie;split<;>first|exact .and _ (.and _ (.fJ _))|exact .fE
theorem ykE(f:Nat)(avs:List AV)(ob:Nat->Obj):kM (ykm P f avs ob):=
 λ_ ⟨args,res,h1,h2,h3,h4⟩=>⟨res,h4,λ_ h'=>⟨args,res,h1,h2,h3,h'⟩⟩
theorem yoB(f:AV)(avs:List AV)(ob:Nat->Obj):kM (ybd P f avs ob):=by
 unfold ybd;split
 ·exact .and _ (ykE _ _ _)
 ·exact .fE
theorem ykk(s:St):∀(ps:List (Nat×Nat×X)) (l:List AV),kM λk=>eY s ps l λl=>k (.agg l)
 |[],l=>.fJ _
 |(o,n,x)::ps,l=>by
  simp only[eY];exact .and _ (.and _ (.and _ (ykk s ps _)))
theorem ysF(h:Repr g s a w blk){v:Value}{x:AV}(hx:RVs g s w blk v x):kM (ybk s x):=by
 have rd:∀{n:Nat} {rows:List (List C)},Rd w (Good g s.objs blk w) v (.sl n rows)->rows.length<=maxLen:=by
  intro n rows hr;cases hr;omega
 unfold ybk;split
 ·exact .imp (rd hx.c) (.fJ _)
 ·obtain⟨_,_,_,hr⟩:=hx;exact .imp (rd hr) (.fJ _)
 ·rename_i id n m;obtain⟨rows,_,_,hh⟩:=hx;refine .imp ?_ (.fJ _);rcases hh with⟨_,e0,_⟩|⟨_,_,_,_,_,_,e1,e2,_⟩
  ·omega
  ·omega
 ·obtain⟨_,_,_,_,_,_,h1,h2,_⟩:=hx;exact .imp (by omega) (.fJ _)
 ·split
  ·rename_i k0 ver' rows hO;intro k hk;obtain⟨rfl,hk⟩:=hk;obtain⟨A,cap,_,hm⟩:=yf3 h hO hx;exact⟨_,hk hm,λk' h'=>⟨rfl,λ_=>h'⟩⟩
  ·exact .fE
 ·exact .fJ _
 ·exact .fE
theorem yrv{v:Value}{x:AV}(h:RVs g s w blk v x):kM (ycd x):=by
 unfold ycd;split
 ·exact .imp h.str.2 (.fJ _)
 ·exact .fE
theorem yp2(h:Repr g s a w blk)(t:Nat):RVs g s w blk (g.val a t) (s.ev (.t t)):=h.env t
theorem ym8(h:Repr g s a w blk){op:IOp}{l:List Nat}(hl:op.reads=some l):kM (sF P op s.ev s.objs):=by
 unfold IOp.reads at hl;split at hl<;>first|cases hl|skip
 all_goals unfold sF
 all_goals first
  |exact .fJ _
  |exact yr6 _
  |exact ysd _
  |exact ytC _ _ _
  |exact ysW _ _
  |exact yse _ _ _
  |exact ysH _ _
  |exact ysF (s:=s) h (yp2 h _)
  |exact yrv (yp2 h _)
  |exact yrU _
  |exact yhk _ (.inl rfl) _ _
  |exact yhk _ (.inr (.inl rfl)) _ _
  |exact yhk _ (.inr (.inr rfl)) _ _
  |exact ytw _ _ _
  |exact yr9 _ _ _ _
  |exact yqA _ _
  |exact yty _ _ _
  |exact yqv _ _ _
  |exact yq8 _ _ _
  |exact ytg _ _ _
  |exact .and _ (.fJ _)
  |exact yqo _ _ _
  |exact ytb _ _ _
  |exact ytr _ _ _
  |exact ys5 _ _ _ _
  |exact ytL _ _ _ _
  |exact ys8 _ _
  |exact yr2 _ _ _ _ _
  |exact yt0 _ _ _ _ _
  |exact yuI _ _
  |exact ykE _ _ _
  |exact yoB _ _ _
  |exact ykk _ _ _
theorem ymY(h:Repr g s a w blk){i:Ins}{l:List Nat}(hl:i.reads=some l):kM (yaF P i s.ev s.objs):=by
 unfold Ins.reads at hl;simp only[zak]at hl;obtain⟨m,hm,_⟩:=hl;have hd:=ym8 (P:=P) h hm;unfold yaF;cases hg:i.g with
 |none=>exact hd
 | some p=>
  obtain⟨t,want⟩:=p;simp only;unfold xO;intro k hk;split at hk
  ·rename_i v hv
   by_cases e:v=want
   ·obtain⟨r,h1,h2⟩:=hd k (hk.1 e);exact⟨r,h1,λk' h'=>⟨λ_=>h2 k' h',λe'=>(by subst e;cases v<;>cases e')⟩⟩
   ·exact⟨.und,hk.2 (by cases v<;>cases want<;>simp_all),λk' h'=>⟨λe'=>absurd e' e,λ_=>h'⟩⟩
  ·exact⟨.und,hk,λk' h'=>h'⟩
  ·exact hk.elim
end
end Go.Proofs.YtpiplmnecmkafaaGreat
namespace Go.Proofs.YtpiplmnecmkafaaGreat
open Go.RowKit
def stE(s:St)(is:List Ins)(r:Nat->AV)(E:Nat->Bool):St:=
 ⟨λt=>match(List.range is.length).find? (λi=>E i&&(is[i]?).bind (·.d)==some t)with
  |some i=>r i
  |none=>s.env t,s.objs⟩
section
variable {P:Program} {g:Ghost} {N:Nat} {s:St} {a:Act} {w:World} {blk:Lay} {ops:Array Oper}
theorem gY:∀{l:List Oper} {is:List Ins},pX P N ops l=some is->is.length=l.length/\∀(j:Nat) (o:Oper),l[j]?=some o->∃i,is[j]?=some i/\kV P N ops o=some i
 |[],is,h=>by cases h;exact⟨rfl,λj o hj=>by simp at hj⟩
 | o::l,is,h=>by
  simp only[pX]at h;split at h
  ·rename_i i is' h1 h2;cases h;obtain⟨e1,e2⟩:=gY h2;refine⟨by simp[e1],λj o' hj=>?_⟩;cases j with
   |zero=>simp at hj;subst hj;exact⟨i,rfl,h1⟩
   |succ j=>exact e2 j o' (by simpa using hj)
  ·cases h
theorem yfI{o:Oper}{i:Ins}(h1:kV P N ops o=some i):(∀d,o.dst=some d->d<N)/\∃op,yhj P o=some op/\i.d=o.dst/\i.op=op/\
 ((o.guard=none/\i.g=none)\/∃j want t,o.guard=some (j,want)/\(ops[j]?).bind (·.dst)=some t/\t<nJ/\i.g=some (t,want)):=by
 constructor
 ·intro j hj;unfold kV at h1;split at h1
  ·split at h1
   ·rename_i e;rw[e]at hj;cases hj
   ·rename_i d e
    by_cases hlt:d<N
    ·rw[e]at hj;cases hj;exact hlt
    ·rw[if_neg hlt]at h1;cases h1
  ·cases h1
 ·unfold kV at h1;split at h1
  ·rename_i op hop;refine⟨op,hop,?_⟩;split at h1
   ·rename_i e;split at h1
    ·rename_i eg;cases h1;exact⟨e.symm,rfl,.inl ⟨eg,rfl⟩⟩
    ·rename_i j want eg;split at h1
     ·rename_i t ht;split at h1
      ·rename_i hlt;cases h1;exact⟨e.symm,rfl,.inr ⟨j,want,t,eg,ht,hlt,rfl⟩⟩
      ·cases h1
     ·cases h1
   ·rename_i d e;split at h1
    ·split at h1
     ·rename_i eg;cases h1;exact⟨e.symm,rfl,.inl ⟨eg,rfl⟩⟩
     ·rename_i j want eg;split at h1
      ·rename_i t ht;split at h1
       ·rename_i hlt;cases h1;exact⟨e.symm,rfl,.inr ⟨j,want,t,eg,ht,hlt,rfl⟩⟩
       ·cases h1
      ·cases h1
    ·cases h1
  ·cases h1
theorem yhc(hN:g.N=N)(h:Repr g s a w blk){o:Oper}{i:Ins}(hc:kV P N ops o=some i){l:List Nat}(hl:i.reads=some l){r:AV}(hv:∀k':AV->Prop,k' r->yaF P i s.ev s.objs k'):
 (Region.wanted o (yielded ops a.tmps)=true/\kC P g o a w (λs'=>s'=s.put i.d r))\/
 (Region.wanted o (yielded ops a.tmps)=false/\Repr g (s.put i.d r) (a.put o.dst undef) w blk):=by
 obtain⟨hd0,op,hop,hid,hiop,hg⟩:=yfI hc;have hd:∀d,o.dst=some d->d<g.N:=by rw[hN];exact hd0
 unfold Ins.reads at hl;simp only[zak]at hl;obtain⟨m,hm,_⟩:=hl
 have doit:sF P i.op s.ev s.objs (λv=>v=r)->kC P g o a w (λs'=>s'=s.put i.d r):=by
  intro hval;refine step_ok h hd hop ?_;rw[<-hiop];refine yjo hm ?_;rw[<-hid];obtain⟨r',hr',hall⟩:=ym8 (P:=P) h hm _ hval;exact hall _ (by rw[hr'])
 rcases hg with⟨e1,e2⟩|⟨j,want,t,e1,e2,htl,e3⟩
 ·refine .inl ⟨by simp[Region.wanted,e1],doit ?_⟩;have:=hv (λv=>v=r) rfl;unfold yaF at this;rw[e2]at this;exact this
 ·have hq:=hv (λv=>v=r) rfl;unfold yaF at hq;rw[e3]at hq;simp only[St.ev]at hq;have hen:=h.at_ htl
  have hy:∀v:Bool,a.tmps.getD t undef=.bool v->yielded ops a.tmps j=some v:=by
   intro v hv;unfold yielded;rw[e2];simp only[zbF]
   have:a.tmps[t]?=some (.bool v):=by
    rw[zai]at hv;cases hq:a.tmps[t]? with
    |none=>rw[hq]at hv;simp[undef]at hv
    |some u=>rw[hq]at hv;simp at hv;rw[hv]
   rw[this]
  unfold xO at hq;split at hq
  ·rename_i v hvv;rw[hvv]at hen;have hb:=hen.bool
   by_cases e:v=want
   ·exact .inl ⟨by simp[Region.wanted,e1,hy v hb,e],doit (hq.1 e)⟩
   ·have hr:=hq.2 (by cases v<;>cases want<;>simp_all);refine .inr ⟨by simp[Region.wanted,e1,hy v hb,e],?_⟩;rw[<-hr,hid];exact h.put hd (v:=undef) (x:=.und) (show undef=undef from rfl)
  ·rename_i hvv;rw[hvv]at hen;have hu:a.tmps.getD t undef=undef:=hen
   have hyn:yielded ops a.tmps j=none:=by
    unfold yielded;rw[e2];simp only[zbF];cases hq:a.tmps[t]? with
    |none=>rfl
    |some u=>
     have:u=undef:=by rw[zai,hq]at hu;simpa using hu
     rw[this];rfl
   refine .inr ⟨by simp[Region.wanted,e1,hyn],?_⟩;rw[<-hq,hid];exact h.put hd (v:=undef) (x:=.und) (show undef=undef from rfl)
  ·exact hq.elim
theorem kC.some_{o:Oper}{K:St->Prop}(h:kC P g o a w K):∃s' a' w' blk',K s'/\Repr g s' a' w' blk':=by
 obtain⟨nx,w',hr,h⟩:=h;cases nx with
 |value v=>obtain⟨s',blk',k,r⟩:=h;exact⟨_,_,_,_,k,r⟩
 |skip=>obtain⟨s',blk',k,r⟩:=h;exact⟨_,_,_,_,k,r⟩
 |enter f args=>
  obtain⟨e,w2,fr,⟨v,_,s',blk',k,r⟩,_⟩:=h [];exact⟨_,_,_,_,k,r⟩
 |_=>exact h.elim
theorem ypY{is:List Ins}{r:Nat->AV}{E:Nat->Bool}{m:Nat}{i:Ins}(hi:is[m]?=some i)(hm:E m=false)(hdist:∀(j:Nat) (x:Ins),is[j]?=some x->j≠m->x.d.isNone=true\/x.d≠i.d):
 stE s is r (λj=>E j||j==m)=(stE s is r E).put i.d (r m):=by
 have hml:m<is.length:=(zab.1 hi).1;cases hd:i.d with
 | none=>
  show stE s is r (λj=>E j||j==m)=stE s is r E
  unfold stE
  congr 1
  funext t
  have:(λj=>(E j||j==m)&&(is[j]?).bind (·.d)==some t)=λj=>E j&&(is[j]?).bind (·.d)==some t:=by
   funext j
   by_cases e:j=m
   ·subst e;simp[hi,hd]
   ·have:(j==m)=false:=by simpa using e
    rw[this,zdh]
  rw[this]
 | some d=>
  show stE s is r (λj=>E j||j==m)=⟨upd d (r m) (stE s is r E).env,(stE s is r E).objs⟩
  unfold stE
  congr 1
  funext t
  rw[oD]
  by_cases e:t=d
  ·subst e;rw[if_pos rfl]
   have:(List.range is.length).find? (λj=>(E j||j==m)&&(is[j]?).bind (·.d)==some t)=some m:=by
    rw[List.find?_eq_some_iff_append];refine⟨by simp[hi,hd],List.range m,(List.range is.length).drop (m+1),?_,?_⟩
    ·conv=>lhs;rw[<-zbd m (List.range is.length)]
     congr 1
     ·rw[List.take_range,Nat.min_eq_left (by omega)]
     ·rw[zaM (by simpa using hml)];simp
    ·intro j hj;have hjm:j≠m:=by have:=zaQ.1 hj;omega
     cases hx:is[j]? with
     |none=>simp
     | some x=>
      rcases hdist j x hx hjm with h1|h1
      ·have:x.d=none:=by simpa using h1
       simp[this]
      ·have:x.d≠some t:=by rw[<-hd];exact h1
       simp[this]
   rw[this]
  ·rw[if_neg e]
   have:(λj=>(E j||j==m)&&(is[j]?).bind (·.d)==some t)=λj=>E j&&(is[j]?).bind (·.d)==some t:=by
    funext j
    by_cases e2:j=m
    ·subst e2;simp[hi,hd,Ne.symm e]
    ·have:(j==m)=false:=by simpa using e2
     rw[this,zdh]
   rw[this]
theorem yaM{is:List Ins}{r r':Nat->AV}{E E':Nat->Bool}(h:∀j,j<is.length->E j=E' j/\(E j=true->r j=r' j)):stE s is r E=stE s is r' E':=by
 unfold stE
 congr 1
 funext t
 have:∀l:List Nat,(∀j∈l,j<is.length)->(match l.find? (λi=>E i&&(is[i]?).bind (·.d)==some t)with|some i=>r i|none=>s.env t)=(match l.find? (λi=>E' i&&(is[i]?).bind (·.d)==some t)with|some i=>r' i|none=>s.env t):=by
  intro l
  induction l with
  |nil=>intro _;rfl
  | cons j l ih=>
   intro hl;obtain⟨h1,h2⟩:=h j (hl j (by simp));simp only[zcn,<-h1];cases hE:(E j&&(is[j]?).bind (·.d)==some t)with
   |true=>
    simp only;have:E j=true:=by revert hE;cases E j<;>simp
    exact h2 this
   |false=>exact ih (λq hq=>hl q (by simp[hq]))
 exact this _ (λj hj=>zaQ.1 hj)
theorem yhT{is:List Ins}{r:Nat->AV}:stE s is r (λj=>decide (j<0))=s:=by
 obtain⟨env,objs⟩:=s;unfold stE
 congr 1
 funext t
 have:(List.range is.length).find? (λi=>decide (i<0)&&(is[i]?).bind (·.d)==some t)=none:=by
  rw[zde];intro j _;simp
 rw[this]
structure QuietInfo(ops:Array Oper)(is:List Ins):Prop where
 len:is.length=ops.size
 rd:∀(j:Nat) (i:Ins),is[j]?=some i->i.reads.isSome=true
 back:∀(j:Nat) (o:Oper),ops[j]?=some o->∀e∈o.after,Region.binds .any e=true->e.on<j
 dist:∀(i j:Nat) (x y:Ins),i<j->is[i]?=some x->is[j]?=some y->x.d.isNone=true\/x.d≠y.d
 pair:∀(i j:Nat) (x y:Ins) (o:Oper),i<j->is[i]?=some x->is[j]?=some y->ops[j]?=some o->ykW o i=true\/indep x y=true
theorem yoi{is:List Ins}(hl:is.length=ops.size)(h:ylx ops is=true):QuietInfo ops is:=by
 unfold ylx at h;rw[zad,zae,zae]at h;obtain⟨h1,h2⟩:=h
 have key:∀(j:Nat) (o:Oper) (y:Ins),ops[j]?=some o->is[j]?=some y->(∀e∈o.after,Region.binds .any e=true->e.on<j)/\∀(i:Nat) (x:Ins),i<j->is[i]?=some x->ylv o i x y=true:=by
  intro j o y ho hy;have hj:j<ops.size:=(zay.1 ho).1;have:=h2 j (zaQ.2 hj);rw[ho,hy]at this;simp only[zad,zbw,zaX,zaV,decide_eq_true_eq,zae]at this;refine⟨λe he hb=>?_,λi x hi hx=>?_⟩
  ·rcases this.1 e he with e1|e1
   ·rw[hb]at e1;cases e1
   ·exact e1
  ·have:=this.2 i (zaQ.2 hi);rw[hx]at this;exact this
 refine⟨hl,λj i hi=>h1 i (zac hi),λj o ho=>?_,λi j x y hij hx hy=>?_,λi j x y o hij hx hy ho=>?_⟩
 ·have hj:j<is.length:=by rw[hl];exact(zay.1 ho).1
  exact(key j o _ ho (zaa hj)).1
 ·have hj:j<ops.size:=by rw[<-hl];exact(zab.1 hy).1
  have:=(key j _ y (zax hj) hy).2 i x hij hx;simp only[ylv,zad,zaX,bne_iff_ne]at this;exact this.1
 ·have:=(key j o y ho hy).2 i x hij hx;simp only[ylv,zad,zaX,bne_iff_ne]at this;exact this.2
theorem ynV(hN:g.N=N){is:List Ins}{K:St->Prop}(hc:pX P N ops ops.toList=some is)(hq:QuietInfo ops is)(h:Repr g s a w blk)(hw:wpQ P is s K):
 ∃r:Nat->AV,K (stE s is r (λj=>decide (j<is.length)))/\∀(j:Nat) (i:Ins),is[j]?=some i->∀k':AV->Prop,k' (r j)->yaF P i (stE s is r (λq=>decide (q<j))).ev s.objs k':=by
 obtain⟨hlen,hget⟩:=gY hc
 have key:∀m,m<=is.length->∃r:Nat->AV,wpQ P (is.drop m) (stE s is r (λj=>decide (j<m))) K/\(∃a' w' blk',Repr g (stE s is r (λj=>decide (j<m))) a' w' blk')/\
  ∀(j:Nat) (i:Ins),j<m->is[j]?=some i->∀k':AV->Prop,k' (r j)->yaF P i (stE s is r (λq=>decide (q<j))).ev s.objs k':=by
  intro m
  induction m with
  |zero=>intro _;exact⟨λ_=>.any,by rw[yhT];exact hw,⟨a,w,blk,by rw[yhT];exact h⟩,λj i hj=>by omega⟩
  | succ m ih=>
   intro hm;obtain⟨r,h1,⟨a1,w1,blk1,h2⟩,h3⟩:=ih (by omega);have hi:=zaa (show m<is.length by omega);revert hi;generalize is[m]=i;intro hi
   have hdrop:is.drop m=i::is.drop (m+1):=by
    rw[zaM (by omega)]
    congr 1
    rw[zaa (by omega)]at hi;exact Option.some.inj hi
   rw[hdrop]at h1;obtain⟨l,hl⟩:=zbW.1 (hq.rd m i hi);obtain⟨rm,k1,k2⟩:=ymY (P:=P) h2 hl _ h1
   let r':Nat->AV:=λj=>if j=m then rm else r j
   have hsame:∀q,q<=m->stE s is r (λj=>decide (j<q))=stE s is r' (λj=>decide (j<q)):=λq hq=>yaM λj _=>⟨rfl,λhj=>by
    have:j<q:=by simpa using hj
    simp only[r'];rw[if_neg (by omega)]⟩
   have hdist:∀(j:Nat) (x:Ins),is[j]?=some x->j≠m->x.d.isNone=true\/x.d≠i.d:=by
    intro j x hx hjm;rcases zbH hjm with e|e
    ·exact hq.dist j m x i e hx hi
    ·rcases hq.dist m j i x e hi hx with e2|e2
     ·have:i.d=none:=by simpa using e2
      rw[this];cases hxd:x.d with
      |none=>exact .inl rfl
      |some _=>exact .inr (by simp)
     ·exact .inr (Ne.symm e2)
   have hput:stE s is r' (λj=>decide (j<m+1))=(stE s is r (λj=>decide (j<m))).put i.d rm:=by
    have e1:stE s is r' (λj=>decide (j<m+1))=stE s is r' (λj=>decide (j<m)||j==m):=yaM λj _=>⟨by
     by_cases e1:j<m
     ·simp[e1];omega
     ·by_cases e2:j=m
      ·simp[e2]
      ·have:¬j<m+1:=by omega
       simp[e1,e2,this],λ_=>rfl⟩
    rw[e1,ypY hi (by simp) hdist,hsame m (Nat.le_refl _)];simp[r']
   have hmo:m<ops.size:=by rw[<-hq.len];omega
   obtain⟨i',hi',hci⟩:=hget m _ (by rw[zbj];exact zax hmo);rw[hi]at hi';cases hi';refine⟨r',by rw[hput];exact k1,?_,λj x hj hx k' hk'=>?_⟩
   ·rw[hput];rcases yhc (ops:=ops) hN h2 hci hl k2 with⟨_,ho⟩|⟨_,ho⟩
    ·obtain⟨s',a',w',blk',e,hr⟩:=ho.some_;rw[e]at hr;exact⟨a',w',blk',hr⟩
    ·exact⟨_,_,_,ho⟩
   ·by_cases e:j=m
    ·subst e;rw[hi]at hx;cases hx;rw[<-hsame _ (Nat.le_refl _)];exact k2 k' (by simpa[r']using hk')
    ·rw[<-hsame j (by omega)];exact h3 j x (by omega) hx k' (by simpa[r',e]using hk')
 obtain⟨r,h1,_,h3⟩:=key is.length (Nat.le_refl _);rw[List.drop_length]at h1;exact⟨r,h1,λj i hi=>h3 j i (zab.1 hi).1 hi⟩
theorem ykl{md:Region.Mode}{e:Edge}(h:Region.binds .any e=true):Region.binds md e=true:=by
 unfold Region.binds at *;split at h
 ·cases h
 ·cases h
 ·rfl
def ykZ(md:Region.Mode)(ops:Array Oper)(rk:Nat->Nat):Prop:=
 ∀(j:Nat) (o:Oper),ops[j]?=some o->∀e∈o.after,Region.binds md e=true->rk e.on<rk j/\e.on<ops.size
theorem ykF{md:Region.Mode}{rk:Nat->Nat}(h:ylz md ops rk=true):ykZ md ops rk:=by
 intro j o ho e he hb;unfold ylz at h;rw[zae]at h;have:=h j (zaQ.2 (zay.1 ho).1);rw[ho]at this;simp only[zbw,zaX,zaV,zad,decide_eq_true_eq]at this;rcases this e he with h1|h1
 ·rw[hb]at h1;cases h1
 ·exact h1
theorem yn1{is:List Ins}(hq:QuietInfo ops is):ykZ .any ops (λj=>j):=by
 intro j o ho e he hb;have h1:=hq.back j o ho e he hb;exact⟨h1,Nat.lt_trans h1 (zay.1 ho).1⟩
theorem yrb {md:Region.Mode} {rk:Nat->Nat} (hrk:ykZ md ops rk) (hN:g.N=N) {is:List Ins} {Q:Exit->Act->World->Prop} (hc:pX P N ops ops.toList=some is) (hq:QuietInfo ops is) {r:Nat->AV}
 (hdet:∀(j:Nat) (i:Ins),is[j]?=some i->∀k':AV->Prop,k' (r j)->yaF P i (stE s is r (λq=>decide (q<j))).ev s.objs k')
 (hQ:∀a' w' blk',Repr g (stE s is r (λj=>decide (j<is.length))) a' w' blk'->Q .normal a' w'):
 ∀(fuel:Nat) (listed:Array Bool) (a:Act) (w:World) (blk:Lay),listed.size=ops.size->(∀(j:Nat) (o:Oper),ops[j]?=some o->listed.getD j true=true->∀e∈o.after,Region.binds .any e=true->listed.getD e.on false=true)->
  Repr g (stE s is r (λj=>listed.getD j false)) a w blk->((List.range ops.size).filter λj=>!listed.getD j true).length=fuel->wpAny P md ops Q fuel listed a w:=by
 obtain⟨hlen,hget⟩:=gY hc;intro fuel
 have done:∀(listed:Array Bool) (a:Act) (w:World) (blk:Lay),listed.size=ops.size->Repr g (stE s is r (λj=>listed.getD j false)) a w blk->Region.ready md ops listed=[]->Q .normal a w:=by
  intro listed a w blk hs hr hnil;refine hQ a w blk ?_
  have hall:∀j,j<ops.size->listed.getD j false=true:=by
   have key:∀n j,rk j=n->j<ops.size->listed.getD j false=true:=by
    intro n
    induction n using Nat.strongRecOn with
    | _ n ih=>
     intro j hn hj;cases hl:listed.getD j false with
     |true=>rfl
     | false=>
      exfalso
      have:j∈Region.ready md ops listed:=by
       unfold Region.ready;rw[zcb];refine⟨zaQ.2 hj,?_⟩
       have h1:listed.getD j true=false:=by
        rw[zai,zax (by omega)]at hl|-;simpa using hl
       rw[zax hj];simp only[h1,zaB,zbs,Bool.not_false,zbz,zbw,zaX,zaV];intro e he;cases hb:Region.binds md e with
       |false=>exact .inl rfl
       |true=>
        obtain⟨h2,h3⟩:=hrk j _ (zax hj) e he hb;exact .inr (ih _ (hn▸h2) e.on rfl h3)
      rw[hnil]at this;cases this
   exactλj hj=>key _ j rfl hj
  rw[yaM (E':=λj=>decide (j<is.length)) (r':=r)]at hr
  ·exact hr
  ·intro j hj;refine⟨?_,λ_=>rfl⟩;rw[hall j (by rw[<-hq.len];exact hj)];simp[hj]
 induction fuel with
 | zero=>
  intro listed a w blk hs hdown hr hcount
  have hnil:Region.ready md ops listed=[]:=by
   rw[zaZ,zbC]at hcount;unfold Region.ready;rw[zbC];intro j hj;have:=hcount j hj;simp only[zaV,zdm]at this;simp[this]
  exact⟨hnil,done listed a w blk hs hr hnil⟩
 | succ fuel ih=>
  intro listed a w blk hs hdown hr hcount;refine⟨λhnil=>done listed a w blk hs hr hnil,λi hi=>?_⟩;unfold Region.ready at hi;rw[zcb]at hi;obtain⟨hi1,hi2⟩:=hi;have hio:=zaQ.1 hi1;have ho:=zax hio;revert ho;generalize ops[i]=o;intro ho;rw[ho]at hi2;simp only[zaB,zbs,zad,zaV,zbw,zaX]at hi2;obtain⟨hnl,haft⟩:=hi2
  have hnl2:listed.getD i false=false:=by
   rw[zai,zax (by omega)]at hnl|-;simpa using hnl
  obtain⟨x,hx,hcx⟩:=hget i o (by rw[zbj];exact ho);obtain⟨l,hl⟩:=zbW.1 (hq.rd i x hx)
  -- the temporaries that it looks at hold what they hold in the text's order
  have hagree:∀t,t∈l->(stE s is r (λq=>decide (q<i))).env t=(stE s is r (λj=>listed.getD j false)).env t:=by
   intro t ht
   have :∀j,j<is.length->(is[j]?).bind (·.d)=some t->decide (j<i)=listed.getD j false:=by
    intro j hj hjt;have hxj:=zaa hj;revert hxj;generalize is[j]=y;intro hxj;rw[hxj]at hjt;simp only[zbF]at hjt;have hrd:x.rd=l:=by simp[Ins.rd,hl]
    rcases zcw j i with e|e|e
    ·simp only[e,decide_true];rcases hq.pair j i y x o e hxj hx ho with e1|e1
     ·unfold ykW at e1;rw[zdk]at e1;obtain⟨ed,hed,e2⟩:=e1;simp only[zad,beq_iff_eq]at e2;rcases haft ed hed with e3|e3
      ·rw[ykl e2.2]at e3;cases e3
      ·rw[<-e2.1];exact e3.symm
     ·simp only[indep,hjt,hrd,zad]at e1;have:=e1.1;simp only[zaV,zcl,decide_eq_false_iff_not]at this;exact absurd ht this
    ·subst e;simp[hnl2]
    ·simp only[show¬j<i from by omega,decide_false];have hjo:=zaa hj;have hoj:=zax (show j<ops.size by rw[<-hq.len];exact hj);cases hlj:listed.getD j false with
     |false=>rfl
     | true=>
      exfalso;rcases hq.pair i j x y _ e hx hxj hoj with e1|e1
      ·unfold ykW at e1;rw[zdk]at e1;obtain⟨ed,hed,e2⟩:=e1;simp only[zad,beq_iff_eq]at e2
       have hlj2:listed.getD j true=true:=by
        have hjs:j<listed.size:=by rw[hs,<-hq.len];exact hj
        rw[zai,zax hjs]at hlj|-;simpa using hlj
       have:=hdown j _ hoj hlj2 ed hed e2.2;rw[e2.1,hnl2]at this;cases this
      ·simp only[indep,hjt,hrd,zad]at e1;have:=e1.2;simp only[zaV,zcl,decide_eq_false_iff_not]at this;exact absurd ht this
   simp only[stE]
   have:∀L:List Nat,(∀j∈L,j<is.length)->L.find? (λq=>decide (q<i)&&(is[q]?).bind (·.d)==some t)=L.find? (λq=>listed.getD q false&&(is[q]?).bind (·.d)==some t):=by
    intro L
    induction L with
    |nil=>intro _;rfl
    | cons j L ihL=>
     intro hL;simp only[zcn]
     have e:(decide (j<i)&&(is[j]?).bind (·.d)==some t)=(listed.getD j false&&(is[j]?).bind (·.d)==some t):=by
      by_cases e2:(is[j]?).bind (·.d)=some t
      ·rw[this j (hL j (by simp)) e2]
      ·rw[show((is[j]?).bind (·.d)==some t)=false from beq_eq_false_iff_ne.2 e2,zbc,zbc]
     rw[e,ihL (λq hq=>hL q (by simp[hq]))]
   rw[this _ (λj hj=>zaQ.1 hj)]
  have hv:∀k':AV->Prop,k' (r i)->yaF P x (stE s is r (λj=>listed.getD j false)).ev (stE s is r (λj=>listed.getD j false)).objs k':=by
   intro k' hk';have:=hdet i x hx k' hk';exact(yoc (ev:=(stE s is r (λq=>decide (q<i))).ev) (ev':=(stE s is r (λj=>listed.getD j false)).ev) hl (λ_=>rfl) (λt ht=>hagree t ht)).mp this
  have hdist:∀(j:Nat) (y:Ins),is[j]?=some y->j≠i->y.d.isNone=true\/y.d≠x.d:=by
   intro j y hy hji;rcases zbH hji with e|e
   ·exact hq.dist j i y x e hy hx
   ·rcases hq.dist i j x y e hx hy with e2|e2
    ·have:x.d=none:=by simpa using e2
     rw[this];cases hxd:y.d with
     |none=>exact .inl rfl
     |some _=>exact .inr (by simp)
    ·exact .inr (Ne.symm e2)
  have hnext:∀j,(listed.setIfInBounds i true).getD j false=(listed.getD j false||j==i):=by
   intro j;rw[zai,zaL]
   by_cases e:i=j
   ·subst e;simp[hs,hio]
   ·have e2:(j==i)=false:=by simpa using Ne.symm e
    rw[if_neg e,<-zai,e2,zdh]
  have hnext2:∀j,j≠i->(listed.setIfInBounds i true).getD j true=listed.getD j true:=by
   intro j e;rw[zai,zaL,if_neg (Ne.symm e),<-zai]
  have cont:∀a' w' blk',Repr g ((stE s is r (λj=>listed.getD j false)).put x.d (r i)) a' w' blk'->wpAny P md ops Q fuel (listed.setIfInBounds i true) a' w':=by
   intro a' w' blk' hr';refine ih (listed.setIfInBounds i true) a' w' blk' (by simpa using hs) ?_ ?_ ?_
   ·intro j o' hj hlj e he hb;rw[hnext]
    by_cases e1:j=i
    ·subst e1;rw[ho]at hj;cases hj;rcases haft e he with e3|e3
     ·rw[ykl hb]at e3;cases e3
     ·rw[e3];rfl
    ·rw[hnext2 j e1]at hlj;rw[hdown j o' hj hlj e he hb];rfl
   ·have e1:stE s is r (λj=>(listed.setIfInBounds i true).getD j false)=stE s is r (λj=>listed.getD j false||j==i):=yaM λj _=>⟨hnext j,λ_=>rfl⟩;rw[e1,ypY hx hnl2 hdist];exact hr'
   ·have :((List.range ops.size).filter λj=>!listed.getD j true).length=((List.range ops.size).filter λj=>!(listed.setIfInBounds i true).getD j true).length+1:=by
     have hcnt : ∀ L : List Nat,L.Nodup->i∈L->(L.filter λj=>!listed.getD j true).length=(L.filter λj=>!(listed.setIfInBounds i true).getD j true).length+1:=by
      intro L hnd hmem
      induction L with
      |nil=>cases hmem
      | cons q L ihL=>
       rw[zca]at hnd
       have hset:(listed.setIfInBounds i true).getD i true=true:=by
        rw[zai,zaL,if_pos rfl];simp[hs,hio]
       by_cases e:q=i
       ·subst e
        have same:(L.filter λj=>!listed.getD j true)=(L.filter λj=>!(listed.setIfInBounds q true).getD j true):=by
         apply zcz;intro j hj;have:j≠q:=λe=>hnd.1 (e▸hj);rw[hnext2 j this]
        rw[zbM,zbM,hnl,hset,same];simp
       ·have:=ihL hnd.2 (by rcases zaH.1 hmem with e1|e1;·exact absurd e1.symm e
                            ·exact e1)
        rw[zbM,zbM,hnext2 q e];split
        ·rw[zaC,zaC,this]
        ·exact this
     exact hcnt _ List.nodup_range hi1
    omega
  unfold wpOp;rw[ho];rcases yhc (ops:=ops) hN hr hcx hl hv with⟨e,hok⟩|⟨e,hrr⟩
  ·simp only[e,if_true];exact .inl (hok.wp λs' blk' a' w' hs' hr'=>cont a' w' blk' (by rw[hs']at hr';exact hr'))
  ·simp only[e];exact cont _ _ _ hrr
theorem yhm(hN:g.N=N){id:Nat}{is:List Ins}{K:St->Prop}{Q:Exit->Act->World->Prop}(hc:yqa P N ops=some is)(h:Repr g s a w blk)(hw:wpQ P is s K)
 (hQ:∀s' a' w' blk',K s'->Repr g s' a' w' blk'->Q .normal a' w'):(Code.region id ops true).wp P Q a w:=by
 unfold yqa at hc;split at hc
 ·rename_i is' hci;split at hc
  ·rename_i hif;cases hc;rw[zad]at hif;have hlen:=(gY hci).1;have hq:=yoi (by rw[hlen];simp) hif.1;have h1:Repr g s a {w with drawn:=w.drawn+1} blk:=h.drew;obtain⟨r,hK,hdet⟩:=ynV hN hci hq h1 hw;refine wp_region_draw λt=>?_
   have base:∀(md:Region.Mode) (rk:Nat->Nat) (t:Nat),ykZ md ops rk->wpOps P ops Q (Region.linearise md ops t) a {w with drawn:=w.drawn+1}:=by
    intro md rk t hrk;refine wpAny_sound ops.size t _ a _ (yrb hrk hN hci hq hdet (λa' w' blk' hr=>hQ _ a' w' blk' hK hr) ops.size (Array.replicate ops.size false) a _ blk (by simp) ?_ ?_ ?_)
    ·intro j o hj hl;exfalso;have hlt:j<ops.size:=(zay.1 hj).1;rw[zai]at hl;simp[hlt]at hl
    ·have e:stE s is r (λj=>(Array.replicate ops.size false).getD j false)=stE s is r (λj=>decide (j<0)):=yaM λj _=>⟨by
      rw[zai,zcB];split<;>simp,λhj=>by
      exfalso;revert hj;rw[zai,zcB];split<;>simp⟩
     rw[e,yhT];exact h1
    ·have:((List.range ops.size).filter λj=>!(Array.replicate ops.size false).getD j true)=List.range ops.size:=by
      rw[zcY];intro j hj;have hlt:=zaQ.1 hj;rw[zai];simp[hlt]
     rw[this,zdl]
   unfold Region.schedule;split
   ·exact base .any (λj=>j) t (yn1 hq)
   ·rename_i hn
    have hd:yhB ops=true:=by
     have:=hif.2;simp only[zaX,zaV]at this hn;rcases this with h1|h1
     ·exact absurd h1 (by simpa using hn)
     ·exact h1
    unfold yhB at hd;rw[zad]at hd;split
    ·exact base .text (λj=>j) _ (ykF hd.1)
    ·exact base .gc _ _ (ykF hd.2)
  ·cases hc
 ·cases hc
end
end Go.Proofs.YtpiplmnecmkafaaGreat
