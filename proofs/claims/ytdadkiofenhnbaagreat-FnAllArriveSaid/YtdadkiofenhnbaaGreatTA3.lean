/- The machine of the proof: an abstract run of the code, proved sound. -/
import Derived.Test.YtdadkiofenhnbaaGreatTA2
set_option linter.all false
namespace Go.Proofs.YtdadkiofenhnbaaGreat
open Go.RowKit
def ybB(w:World)(G:Nat->Prop)(v:Value)(x:AV)(F:Nat->Prop):Prop:=
 match x with
 | .c c=>OT w G v c F
 | .agg l=>∃arr:Array Value,v=.agg arr/\arr.size=l.length/\∃Fs:Nat->Nat->Prop,
  (∀(j:Nat) (y:AV),l[j]?=some y->∃u c,y=.c c/\arr[j]?=some u/\OT w G u c (Fs j))/\(∀j b,Fs j b->F b)/\(∀j j' b,Fs j b->Fs j' b->j=j')
 |_=>False
def AOk(w:World)(G:Nat->Prop)(v:Value)(x:AV)(F:Nat->Prop):Prop:=
 match x with
 | .tup l=>∃arr:Array Value,v=.tuple arr/\arr.size=l.length/\∃Fs:Nat->Nat->Prop,
  (∀(j:Nat) (y:AV),l[j]?=some y->∃u,arr[j]?=some u/\ybB w G u y (Fs j))/\(∀j b,Fs j b->F b)/\(∀j j' b,Fs j b->Fs j' b->j=j')
 |x=>ybB w G v x F
def sid(d j:Nat):Nat:=d+10000*(j+1)
def tid(d j:Nat):Nat:=d+10000000*(j+1)
def C.unp(id:Nat):C->AV
 | .ow k rows=>.own id k rows.length
 | .ot k rows=>.own id k rows.length
 | .bx cells=>if cells.all C.plain then .box id 0 else .any
 | .jk=>.any
 |x=>.c x
def C.fK(id:Nat):C->List (Nat×Obj)
 | .ow k rows=>[(id,.row k rows)]
 | .ot k rows=>[(id,.tr k 0 rows)]
 | .bx cells=>if cells.all C.plain then[(id,.box (cells.map .c))]else[]
 |_=>[]
def ybi(d:Nat):Nat->List C->List AV
 |_,[]=>[]
 |j,c::l=>c.unp (sid d j)::ybi d (j+1) l
def jP(d:Nat):Nat->List C->List (Nat×Obj)
 |_,[]=>[]
 |j,c::l=>c.fK (sid d j)++jP d (j+1) l
def AV.cs:List AV->List C
 |[]=>[]
 | .c y::l=>y::AV.cs l
 |_::l=>.jk::AV.cs l
def AV.ylA(d:Nat):AV->AV
 | .c y=>y.unp d
 | .agg l=>.agg (ybi d 0 (AV.cs l))
 |x=>x
def AV.yd1(d:Nat):AV->List (Nat×Obj)
 | .c y=>y.fK d
 | .agg l=>jP d 0 (AV.cs l)
 |_=>[]
def yro(d:Nat):Nat->List AV->List AV
 |_,[]=>[]
 |j,x::l=>x.ylA (tid d j)::yro d (j+1) l
def yir(d:Nat):Nat->List AV->List (Nat×Obj)
 |_,[]=>[]
 |j,x::l=>x.yd1 (tid d j)++yir d (j+1) l
def AV.unp(d:Nat):AV->AV
 | .tup l=>.tup (yro d 0 l)
 |x=>x.ylA d
def AV.fK(d:Nat):AV->List (Nat×Obj)
 | .tup l=>yir d 0 l
 |x=>x.yd1 d
def nG(O:Nat->Obj):List (Nat×Obj)->Nat->Obj
 |[]=>O
 |(k,o)::l=>upd k o (nG O l)
def fD(s:St)(l:List (Nat×Obj)):Prop:=(∀p,p∈l->s.ob p.1=.none)/\(l.map (·.1)).Nodup
def kW{O:Nat->Obj}:∀{l:List (Nat×Obj)},(l.map (·.1)).Nodup->∀p,p∈l->nG O l p.1=p.2
 |[],_,p,hp=>by grind
 | (k,o)::l,hn,p,hp=>by
  simp only[zaC,zcC]at hn;simp only[nG,jG];rcases zax.1 hp with e|e
  .grind
  .have:p.1≠k:=λe2=>hn.1 (e2▸zbx e);rw[if_neg this];exact kW hn.2 p e
def kY{O:Nat->Obj}:∀{l:List (Nat×Obj)} {i:Nat},i∉l.map (·.1)->nG O l i=O i
 |[],i,_=>rfl
 |(k,o)::l,i,hi=>by
  simp only[zaC,zax,not_or]at hi;simp only[nG,jG];rw[if_neg hi.1];exact kY hi.2
def yyB:∀{l:List AV} {j:Nat} {c:C},l[j]?=some (.c c)->(AV.cs l)[j]?=some c
 |[],j,c,h=>by grind
 |x::l,0,c,h=>by simp at h;subst h;rfl
 |x::l,j+1,c,h=>by
  have:=yyB (l:=l) (j:=j) (c:=c) (by grind);cases x<;>grind [AV.cs]
theorem ybR:∀(l:List AV),(AV.cs l).length=l.length
 |[]=>rfl
 |x::l=>by cases x<;>simp[AV.cs,ybR l]
def ypQ:∀(l:List C),AV.cs (l.map .c)=l
 |[]=>rfl
 |c::l=>by simp[AV.cs,ypQ l]
def ygx(w:World)(G F:Nat->Prop)(l:List (Nat×Obj))(Y:(Nat->Prop)->(Nat->Obj)->(Nat->Option Nat)->Prop):Prop:=
 ∃(R:Nat->Option Nat) (S:Nat->Nat->Prop),
  (∀p,p∈l->∀b,(R p.1=some b\/S p.1 b)->F b)/\
  (∀p,p∈l->∀b,R p.1=some b->¬S p.1 b)/\
  (∀p q,p∈l->q∈l->∀b,(R p.1=some b\/S p.1 b)->(R q.1=some b\/S q.1 b)->p.1=q.1)/\
  (∀(G':Nat->Prop) (O:Nat->Obj) (B:Nat->Option Nat),(∀b,G b->G' b)->(∀p,p∈l->O p.1=p.2/\B p.1=R p.1)->Y G' O B)/\
  (∀(G':Nat->Prop) (O:Nat->Obj) (B:Nat->Option Nat),(∀b,G b->G' b)->∀p,p∈l->jU w G' O B (S p.1) (R p.1) p.2)
section
variable {w:World} {G F:Nat->Prop} {v:Value}
theorem ykh{Y:(Nat->Prop)->(Nat->Obj)->(Nat->Option Nat)->Prop}(hY:∀G' O B,(∀b,G b->G' b)->Y G' O B):ygx w G F [] Y:=
 ⟨λ_=>none,λ_=>noF,λp hp=>by grind,λp hp=>by simp,λp q hp=>by simp,λG' O B hG _=>hY G' O B hG,λ_ _ _ _ p hp=>by grind⟩
theorem yj6{id:Nat}{o:Obj}{Y:(Nat->Prop)->(Nat->Obj)->(Nat->Option Nat)->Prop}(r:Option Nat)(S:Nat->Prop)(h1:∀b,(r=some b\/S b)->F b)(h2:∀b,r=some b->¬S b)
 (h3:∀(G':Nat->Prop) (O:Nat->Obj) (B:Nat->Option Nat),(∀b,G b->G' b)->O id=o->B id=r->Y G' O B)
 (h4:∀(G':Nat->Prop) (O:Nat->Obj) (B:Nat->Option Nat),(∀b,G b->G' b)->jU w G' O B S r o):ygx w G F [(id,o)] Y:=by
 refine⟨λ_=>r,λ_=>S,λp hp b hb=>h1 b hb,λp hp b hb=>h2 b hb,λp q hp hq _ _ _=>?_,λG' O B hG hO=>?_,λG' O B hG p hp=>?_⟩<;>simp_all
def ygx.mono{F':Nat->Prop}{l:List (Nat×Obj)}{Y Y':(Nat->Prop)->(Nat->Obj)->(Nat->Option Nat)->Prop}(h:ygx w G F l Y)(hF:∀b,F b->F' b)(hY:∀G' O B,Y G' O B->Y' G' O B):ygx w G F' l Y':=by
 obtain⟨R,S,h1,h2,h3,h4,h5⟩:=h;exact⟨R,S,λp hp b hb=>hF b (h1 p hp b hb),h2,h3,λG' O B hG hO=>hY _ _ _ (h4 G' O B hG hO),h5⟩
theorem yAr{F1 F2:Nat->Prop}{l1 l2:List (Nat×Obj)}{Y1 Y2:(Nat->Prop)->(Nat->Obj)->(Nat->Option Nat)->Prop}(h1:ygx w G F1 l1 Y1)(h2:ygx w G F2 l2 Y2)(hn:((l1++l2).map (·.1)).Nodup)
 (hd:∀b,F1 b->¬F2 b) (hF1:∀b,F1 b->F b) (hF2:∀b,F2 b->F b):ygx w G F (l1++l2) (λG' O B=>Y1 G' O B/\Y2 G' O B):=by
 obtain⟨R1,S1,a1,a2,a3,a4,a5⟩:=h1;obtain⟨R2,S2,b1,b2,b3,b4,b5⟩:=h2;rw[zaD]at hn;have hx:=(zaY.1 hn).2.2;have in1:∀p,p∈l1->p.1∈l1.map (·.1):=λp hp=>zbx hp;have in2:∀p,p∈l2->p.1∉l1.map (·.1):=λp hp hm=>hx _ hm _ (zbx hp) rfl;have r1:∀p,p∈l1->(if p.1∈l1.map (·.1)then R1 p.1 else R2 p.1)=R1 p.1:=λp hp=>if_pos (in1 p hp);have r2:∀p,p∈l2->(if p.1∈l1.map (·.1)then R1 p.1 else R2 p.1)=R2 p.1:=λp hp=>if_neg (in2 p hp);have s1:∀p,p∈l1->(if p.1∈l1.map (·.1)then S1 p.1 else S2 p.1)=S1 p.1:=λp hp=>if_pos (in1 p hp);have s2:∀p,p∈l2->(if p.1∈l1.map (·.1)then S1 p.1 else S2 p.1)=S2 p.1:=λp hp=>if_neg (in2 p hp);refine⟨λi=>if i∈l1.map (·.1)then R1 i else R2 i,λi=>if i∈l1.map (·.1)then S1 i else S2 i,λp hp b hb=>?_,λp hp b hb=>?_,λp q hp hq b hpb hqb=>?_,λG' O B hG hO=>⟨?_,?_⟩,λG' O B hG p hp=>?_⟩
 .grind
 .grind
 .grind
 .refine a4 G' O B hG λp hp=>?_
  grind
 .refine b4 G' O B hG λp hp=>?_
  grind
 grind
theorem OT.rd{c:C}(h:OT w G v c F)(hp:c.plain=true):Rd w G v c:=by
 cases h with
 |sh h=>exact h
 |_=>grind [C.plain]
theorem OT.lays{c:C}{id:Nat}(h:OT w G v c F):ygx w G F (c.fK id) (λG' O B=>RV1 w G' O B v (c.unp id)):=by
 cases h with
 | sh h=>
  have hp:∀(w:World) (G:Nat->Prop) (v:Value) (c:C),Rd w G v c->c.unp id=.c c/\c.fK id=[]:=by
   intro w G v c h;cases h<;>exact⟨rfl,rfl⟩
  obtain⟨e1,e2⟩:=hp w G v c h;rw[e1,e2];exact ykh λG' O B hG=>Rd.mono h hG (λ_ _ _ h=>h)
 |jk h1 h2=>exact ykh λG' O B hG=>trivial
 |ow0=>
  refine yj6 none noF (λb hb=>by rcases hb with hb|hb;cases hb;exact hb.elim) (λb hb=>by grind) (λG' O B hG hO hB=>?_) (λG' O B hG=>.inl ⟨rfl,rfl⟩);exact⟨0,by rw[hO];rfl,Nat.le_refl _,.inl ⟨hB,rfl,_,rfl⟩⟩
 |ot0=>
  refine yj6 none noF (λb hb=>by rcases hb with hb|hb;cases hb;exact hb.elim) (λb hb=>by grind) (λG' O B hG hO hB=>?_) (λG' O B hG=>.inl ⟨rfl,rfl⟩);exact⟨0,by rw[hO];rfl,Nat.le_refl _,.inl ⟨hB,rfl,_,rfl⟩⟩
 |@ow b0 len cap k rows arr e F0 vals h1 h2 h3 h4 h5 h6 h7 h8 h9=>
  have hsz:rows.length*k<=arr.size:=zba (zaq k (by omega)) h5;refine yj6 (some b0) noF (λb hb=>by rcases hb with hb|hb;cases hb;exact h7;exact hb.elim) (λb _ hb=>hb) (λG' O B hG hO hB=>?_) (λG' O B hG=>.inr ⟨b0,arr,e,rfl,h1,hsz,h6,λi r j c hr hc=>⟨_,h8 i r hr j c hc,(h9 i r hr j c hc).mono hG (λ_ _ _ h=>h)⟩⟩);exact⟨rows.length,by rw[hO];rfl,Nat.le_refl _,.inr ⟨b0,cap,arr,e,hB,by rw[h2],by omega,h4,h1,h5⟩⟩
 |@ot b0 len cap k rows arr e F0 vals Fs h1 h2 h3 h4 h5 h6 h7 h8 h9 h10 h11=>
  have hsz:rows.length*k<=arr.size:=zba (zaq k (by omega)) h5;refine yj6 (some b0) (λb=>∃i j,Fs i j b) (λb hb=>?_) (λb hb=>?_) (λG' O B hG hO hB=>?_) (λG' O B hG=>.inr ⟨b0,arr,e,rfl,h1,hsz,h6,vals,Fs,λi j x hx=>⟨⟨i,j,hx⟩,(h8 i j x hx).2⟩,h9,h10,λi r hr j c hc=>(h11 i r hr j c hc).mono hG (λ_ _ _ h=>h) (λ_ h=>h) (λ_ _=>rfl)⟩)
  .grind
  .grind
  .exact⟨rows.length,by rw[hO];rfl,Nat.le_refl _,.inr ⟨b0,cap,arr,e,hB,by rw[h2],by omega,h4,h1,h5⟩⟩
 | @bx b0 cells arr e F0 vals Fs h1 h2 h3 h4 h5 h6 h7=>
  simp only[C.unp,C.fK];split
  .rename_i hpl;refine yj6 (some b0) noF (λb hb=>by rcases hb with hb|hb;cases hb;exact h3;exact hb.elim) (λb _ hb=>hb) (λG' O B hG hO hB=>⟨b0,_,hO,hB,rfl⟩) (λG' O B hG=>⟨b0,arr,e,rfl,h1,by grind,λj x hx=>?_⟩);rw[zau,zam]at hx;obtain⟨c,hc,rfl⟩:=hx;exact⟨_,h6 j c hc,((h7 j c hc).rd (zaf.1 hpl c (zac hc))).mono hG (λ_ _ _ h=>h)⟩
  .exact ykh λG' O B hG=>trivial
theorem yla(d:Nat)(us:List Value){Fs:Nat->Nat->Prop}(hd:∀j j' b,Fs j b->Fs j' b->j=j'):∀(cs:List C) (j:Nat),
 (∀(i:Nat) (c:C),cs[i]?=some c->∃u,us[j+i]?=some u/\OT w G u c (Fs (j+i)))->((jP d j cs).map (·.1)).Nodup->
 ygx w G (λb=>∃i,j<=i/\Fs i b) (jP d j cs) (λG' O B=>∀(i:Nat) (x:AV),(ybi d j cs)[i]?=some x->∃u,us[j+i]?=some u/\RV1 w G' O B u x)
 |[],j,_,_=>ykh λ_ _ _ _ i x hx=>by grind [ybi]
 | c::cs,j,h,hn=>by
  obtain⟨u0,hu0,h0⟩:=h 0 c rfl;rw[zcA]at hu0 h0
  have hn2:((jP d (j+1) cs).map (·.1)).Nodup:=by
   grind [jP]
  have ih:=yla d us hd cs (j+1) (λi c' hc=>by
   obtain⟨u,hu,ho⟩:=h (i+1) c' (by grind)
   grind) hn2
  refine(yAr (F:=λb=>∃i,j<=i/\Fs i b) (h0.lays (id:=sid d j)) ih hn ?_ (λb hb=>⟨j,Nat.le_refl _,hb⟩) (λb hb=>let⟨i,h1,h2⟩:=hb;⟨i,by omega,h2⟩)).mono (λ_ h=>h) ?_
  .grind
  grind [ybi]
theorem yfc(d:Nat):∀(cs:List C) (j:Nat),(ybi d j cs).length=cs.length
 |[],_=>rfl
 |c::cs,j=>by simp[ybi,yfc d cs]
theorem yqJ(d:Nat):∀(cs:List AV) (j:Nat),(yro d j cs).length=cs.length
 |[],_=>rfl
 |c::cs,j=>by simp[yro,yqJ d cs]
theorem ybB.lays{x:AV}{d:Nat}(h:ybB w G v x F)(hn:((x.yd1 d).map (·.1)).Nodup):ygx w G F (x.yd1 d) (λG' O B=>RV2 w G' O B v (x.ylA d)):=by
 cases x with
 |c c=>exact(OT.lays (id:=d) h).mono (λ_ h=>h) λG' O B hy=>yxS hy
 | agg l=>
  obtain⟨arr,rfl,hs,Fs,h1,h2,h3⟩:=h
  have key:=yla (w:=w) (G:=G) d arr.toList h3 (AV.cs l) 0 (λi c hc=>by
   have hlt:i<l.length:=by grind [ybR]
   obtain⟨u,c',e1,hu,ho⟩:=h1 i _ (zab hlt)
   simp_all [yyB]) hn
  refine key.mono (λb hb=>let⟨i,_,hb⟩:=hb;h2 i b hb) λG' O B hy=>?_;refine⟨arr,rfl,by grind [yfc,ybR],λj x hj=>?_⟩
  grind
 |_=>exact h.elim
theorem yAL(d:Nat)(us:List Value){Fs:Nat->Nat->Prop}(hd:∀j j' b,Fs j b->Fs j' b->j=j'):∀(cs:List AV) (j:Nat),
 (∀(i:Nat) (c:AV),cs[i]?=some c->∃u,us[j+i]?=some u/\ybB w G u c (Fs (j+i)))->((yir d j cs).map (·.1)).Nodup->
 ygx w G (λb=>∃i,j<=i/\Fs i b) (yir d j cs) (λG' O B=>∀(i:Nat) (x:AV),(yro d j cs)[i]?=some x->∃u,us[j+i]?=some u/\RV2 w G' O B u x)
 |[],j,_,_=>ykh λ_ _ _ _ i x hx=>by grind [yro]
 | c::cs,j,h,hn=>by
  obtain⟨u0,hu0,h0⟩:=h 0 c rfl;rw[zcA]at hu0 h0
  have hn1:((c.yd1 (tid d j)).map (·.1)).Nodup:=by
   grind [yir]
  have hn2:((yir d (j+1) cs).map (·.1)).Nodup:=by
   grind [yir]
  have ih:=yAL d us hd cs (j+1) (λi c' hc=>by
   obtain⟨u,hu,ho⟩:=h (i+1) c' (by grind)
   grind) hn2
  refine(yAr (F:=λb=>∃i,j<=i/\Fs i b) (h0.lays (d:=tid d j) hn1) ih hn ?_ (λb hb=>⟨j,Nat.le_refl _,hb⟩) (λb hb=>let⟨i,h1,h2⟩:=hb;⟨i,by omega,h2⟩)).mono (λ_ h=>h) ?_
  .grind
  grind [yro]
theorem AOk.lays{x:AV}{d:Nat}(h:AOk w G v x F)(hn:((x.fK d).map (·.1)).Nodup):ygx w G F (x.fK d) (λG' O B=>RV w G' O B v (x.unp d)):=by
 cases x with
 | tup l=>
  obtain⟨arr,rfl,hs,Fs,h1,h2,h3⟩:=h
  have key:=yAL (w:=w) (G:=G) d arr.toList h3 l 0 (λi c hc=>by
   grind) hn
  refine key.mono (λb hb=>let⟨i,_,hb⟩:=hb;h2 i b hb) λG' O B hy=>?_;refine⟨arr,rfl,by grind [yqJ],λj x hj=>?_⟩
  grind
 |c c=>exact(ybB.lays (x:=.c c) (d:=d) h hn).mono (λ_ h=>h) λG' O B hy=>yhR hy
 |agg l=>exact(ybB.lays (x:=.agg l) (d:=d) h hn).mono (λ_ h=>h) λG' O B hy=>yhR hy
 |_=>exact h.elim
end
def nI(P:Program)(f:Nat)(args:List AV)(res:AV):Prop:=
 ∀ (w:World) (G:Nat->Prop),(∀b,G b->b<w.heap.size)->∀vs:Array Value,vs.size=args.length->
  (∀(j:Nat) (x:AV),args[j]?=some x->∃u:Value,vs[j]?=some u/\RV w G noO noB u x)->
  Calls P f vs w λe w'=>∃v F,e=.returned v/\Below w.heap.size w w'/\(∀b,F b->w.heap.size<=b/\b<w'.heap.size)/\
   AOk w' (λb=>(G b\/(w.heap.size<=b/\b<w'.heap.size))/\¬F b) v res F
section
variable {g:ySm} {s:St} {a:Act} {w:World} {L:Lay}
theorem Repr.got(h:Repr g s a w L){w':World}{G F:Nat->Prop}{v:Value}{res:AV}{d:Nat}(hb:Below w.heap.size w w')(hF:∀b,F b->w.heap.size<=b/\b<w'.heap.size)
 (hG:∀b,G b->(Good g s.yRU L w b\/(w.heap.size<=b/\b<w'.heap.size))/\¬F b) (ho:AOk w' G v res F) (hfr:fD s (res.fK d)):
 ∃L':Lay,Repr g ⟨s.env,nG s.yRU (res.fK d)⟩ a w' L'/\RV w' (Good g (nG s.yRU (res.fK d)) L' w') (nG s.yRU (res.fK d)) L' v (res.unp d):=by
 obtain⟨R,S,h1,h2,h3,h4,h5⟩:=ho.lays hfr.2;generalize hl:res.fK d=l at *
 let L':Lay:=⟨λi=>if i∈l.map (·.1)then R i else L.root i,λi=>if i∈l.map (·.1)then S i else L.sub i⟩
 have rt:∀i,L'.root i=if i∈l.map (·.1)then R i else L.root i:=λi=>rfl
 have sb:∀i,L'.sub i=if i∈l.map (·.1)then S i else L.sub i:=λi=>rfl
 have mem:∀i,i∈l.map (·.1)->∃p,p∈l/\p.1=i:=λi hi=>by grind
 have fpF:∀i,i∈l.map (·.1)->∀b,L'.fp i b->F b:=by
  grind [Lay.fp]
 have none_:∀i,i∈l.map (·.1)->s.yRU i=.none:=by
  intro i hi;obtain⟨p,hp,rfl⟩:=mem i hi;exact hfr.1 p hp
 have key:=h.yq6 [] (λi=>i∈l.map (·.1)) (objs':=nG s.yRU l) (w':=w') (L':=L') (X:=noF) (.of_below _ hb) (λ_ hq=>hq.elim)
  (λi hi=>⟨by rw[kY hi];rfl,by grind,by grind⟩)
  (λi b hi _ hf=>.inr (hF b (fpF i hi b hf)))
  (λi j b hi hj _ _ hfi hfj=>by
   grind [Lay.fp])
  (λi b hi _ hr=>by
   grind)
  (λi hi _ hn=>absurd (none_ i hi) hn)
  (λi k v' rows hi _ hk=>by grind)
  (λG' K hN hM i hi=>by
   obtain⟨p,hp,rfl⟩:=mem i hi;rw[rt,sb,if_pos hi,if_pos hi,kW hfr.2 p hp];refine h5 G' _ _ (λb hb=>?_) p hp;obtain⟨e1,e2⟩:=hG b hb;rcases e1 with e1|e1
   .exact K.good b e1
   .exact hN b e1.1 e1.2 λi hi _ hf=>e2 (fpF i hi b hf))
 obtain⟨k1,k2,k3⟩:=key;refine⟨L',k1,h4 _ _ _ (λb hb=>?_) λp hp=>⟨kW hfr.2 p hp,by grind⟩⟩;obtain⟨e1,e2⟩:=hG b hb;rcases e1 with e1|e1
 .exact k2.good b e1
 grind
end
def C.closed:C->Prop
 | .sl _ rows=>rows=[]
 | .ow _ rows=>∀r,r∈rows->∀c,c∈r->c.closed
 | .ot _ rows=>∀r,r∈rows->∀c,c∈r->c.closed
 | .bx cells=>∀c,c∈cells->c.closed
 |_=>True
termination_by c=>SizeOf.sizeOf c
decreasing_by
 all_goals first
  | (have h1:=zbV ‹_∈rows›
     have h2:=zbV ‹_∈r›
     simp only[C.ow.sizeOf_spec,C.ot.sizeOf_spec]
     omega)
  | (have h1:=zbV ‹_∈cells›
     simp only[C.bx.sizeOf_spec]
     omega)
def Rd.closed{w:World}{G G':Nat->Prop}{v:Value}{c:C}(h:Rd w G v c)(hc:c.closed):Rd w G' v c:=by
 cases h with
 |i h=>exact .i h
 |b=>exact .b
 |u h=>exact .u h
 |q h=>exact .q h
 |s h=>exact .s h
 |sl vals h1 h2 h3 h4 h5 h6 h7=>
  simp only[C.closed]at hc;subst hc;exact .sl vals h1 h2 h3 (by simp) h5 (by simp) (by simp)
def OT.closed{w:World}{G G':Nat->Prop}{v:Value}{c:C}{F:Nat->Prop}(h:OT w G v c F):c.closed->OT w G' v c F:=by
 induction h with
 |sh h=>intro hc;exact .sh (h.closed hc)
 |jk h h2=>intro _;exact .jk h h2
 |ow0=>intro _;exact .ow0
 |ot0=>intro _;exact .ot0
 |ow vals h1 h2 h3 h4 h5 h6 h7 h8 h9=>
  intro hc;simp only[C.closed]at hc;exact .ow vals h1 h2 h3 h4 h5 h6 h7 h8 (λi r hr j c hj=>(h9 i r hr j c hj).closed (hc r (zac hr) c (zac hj)))
 |ot vals Fs h1 h2 h3 h4 h5 h6 h7 h8 h9 h10 _ ih=>
  intro hc;simp only[C.closed]at hc;exact .ot vals Fs h1 h2 h3 h4 h5 h6 h7 h8 h9 h10 (λi r hr j c hj=>ih i r hr j c hj (hc r (zac hr) c (zac hj)))
 |bx vals Fs h1 h2 h3 h4 h5 h6 _ ih=>
  intro hc;simp only[C.closed]at hc;exact .bx vals Fs h1 h2 h3 h4 h5 h6 (λj c hj=>ih j c hj (hc c (zac hj)))
def AV.jI:AV->Prop
 | .c y=>y.closed
 | .agg l=>∀c,c∈AV.cs l->c.closed
 |_=>False
def AV.closed:AV->Prop
 | .tup l=>∀x,x∈l->x.jI
 |x=>x.jI
def ybB.closed{w:World}{G G':Nat->Prop}{v:Value}{x:AV}{F:Nat->Prop}(h:ybB w G v x F)(hc:x.jI):ybB w G' v x F:=by
 cases x with
 |c c=>exact OT.closed h hc
 |agg l=>
  obtain⟨arr,e,hs,Fs,h1,h2,h3⟩:=h;refine⟨arr,e,hs,Fs,λj y hy=>?_,h2,h3⟩;obtain⟨u,c,rfl,hu,ho⟩:=h1 j y hy;exact⟨u,c,rfl,hu,ho.closed (hc c (zac (yyB hy)))⟩
 |_=>exact h.elim
def AOk.closed{w:World}{G G':Nat->Prop}{v:Value}{x:AV}{F:Nat->Prop}(h:AOk w G v x F)(hc:x.closed):AOk w G' v x F:=by
 cases x with
 |tup l=>
  obtain⟨arr,e,hs,Fs,h1,h2,h3⟩:=h;exact⟨arr,e,hs,Fs,λj y hy=>let⟨u,hu,ho⟩:=h1 j y hy;⟨u,hu,ho.closed (hc y (zac hy))⟩,h2,h3⟩
 |c c=>exact ybB.closed (x:=.c c) h hc
 |agg l=>exact ybB.closed (x:=.agg l) h hc
 |_=>exact h.elim
section
variable {P:Program} {f:Nat} {s:St} {d:Nat} {avs args:List AV} {res:AV} {K:St->Prop}
def St.take(s:St)(d:Nat)(res:AV):St:=⟨upd d (res.unp d) s.env,nG s.yRU (res.fK d)⟩
def sD(hp:nI P f args res)(ho:iO s avs args)(hc:res.closed)(hfr:fD s (res.fK d))(hK:K (s.take d res)):yat P f avs (some d) s K:=by
 intro g a w blk h hd vs hvs hv;obtain⟨h1,h2⟩:=yV ho;refine(hp w (All g w) (λb hb=>yBS h hb) vs (by omega) (λj y hj=>?_)).mono ?_
 .obtain⟨x,hx,hxy⟩:=h2 j y hj;obtain⟨u,hu,hru⟩:=hv j x hx;exact⟨u,hu,yhR (yoq h (λ_ h=>h) hru hxy)⟩
 .rintro e w' ⟨v,F,rfl,hb,hF,hr⟩
  obtain⟨L',k1,k2⟩:=h.got (G:=noF) hb hF (λb hb=>hb.elim) (hr.closed hc) hfr;exact⟨v,rfl,_,L',hK,k1.put hd k2⟩
def qU(hp:nI P f args res)(ho:iO s avs args)(hdat:avs.all AV.nU=true)(hfr:fD s (res.fK d))(hK:K (s.take d res)):yat P f avs (some d) s K:=by
 intro g a w blk h hd vs hvs hv;obtain⟨h1,h2⟩:=yV ho;refine(hp w (Good g s.yRU blk w) (λb hb=>ycl h hb) vs (by omega) (λj y hj=>?_)).mono ?_
 .obtain⟨x,hx,hxy⟩:=h2 j y hj;obtain⟨u,hu,hru⟩:=hv j x hx;exact⟨u,hu,ykY (λ_ h=>h) hru (zaf.1 hdat x (zac hx)) hxy⟩
 .rintro e w' ⟨v,F,rfl,hb,hF,hr⟩
  obtain⟨L',k1,k2⟩:=h.got hb hF (λb hb=>hb) hr hfr;exact⟨v,rfl,_,L',hK,k1.put hd k2⟩
end
end Go.Proofs.YtdadkiofenhnbaaGreat
namespace Go.Proofs.YtdadkiofenhnbaaGreat
open Go.RowKit
abbrev Lab:=List Nat×Bool
def AV.cl1:AV->Bool
 | .any=>false
 |_=>true
def AV.cl2:AV->Bool
 | .agg l| .fn _ l=>l.all AV.cl1
 |x=>x.cl1
def AV.cl:AV->Bool
 | .tup l=>l.all AV.cl2
 |x=>x.cl2
def AV.yhg(l:List Nat)(x:AV):AV:=l.foldl (λx i=>x.fV i) x
theorem yf7{i:Nat}{x:AV}(h:i∉x.nP):x.ybe i=true:=by
 cases x<;>grind [AV.nP,AV.tJ,AV.ybe]
def yDQ{i:Nat}{x:AV}(h:i∉x.qV):x.yCX i=true:=by
 cases x
 case agg l=>exact zaf.2 λy hy=>yf7 λhi=>h (zaI.2 ⟨y,hy,hi⟩)
 case fn f l=>exact zaf.2 λy hy=>yf7 λhi=>h (zaI.2 ⟨y,hy,hi⟩)
 all_goals grind [yf7,AV.qV,AV.yCX]
def ymU{i:Nat}{x:AV}(h:i∉x.nP):x.fV i=x:=by
 grind [yf7,AV.fV]
theorem ynP{α:Type}{f:α->α}{l:List α}(h:∀x,x∈l->f x=x):l.map f=l:=by
 rw[zbg h];simp
def yDG{i:Nat}{x:AV}(h:i∉x.ids):x.kill i=x:=by
 cases x
 case agg l=>
  simp only[AV.kill];rw[ynP λy hy=>ymU λhi=>h (zaI.2 ⟨y,hy,hi⟩)]
 case fn f l=>
  simp only[AV.kill];rw[if_pos (zaf.2 λy hy=>yf7 λhi=>h (zaI.2 ⟨y,hy,hi⟩))]
 case tup l=>
  simp only[AV.kill];rw[if_pos (zaf.2 λy hy=>yDQ λhi=>h (zaI.2 ⟨y,hy,hi⟩))]
 all_goals exact ymU h
theorem ykC{i:Nat}{x:AV}(h:(x.fV i).cl1=true):x.fV i=x:=by
 unfold AV.fV at h|-;split
 .rfl
 .rename_i e;rw[if_neg e]at h;cases h
def yFW{x:AV}(h:x.cl=true):x.cl1=true:=by cases x<;>first|rfl|exact h
theorem yCf{i:Nat}{x:AV}(h:(x.kill i).cl=true):x.kill i=x:=by
 cases x
 case agg l=>
  grind [ynP,ykC,AV.kill,AV.cl,AV.cl2]
 case fn f l=>
  simp only[AV.kill]at h|-;split
  .rfl
  .rename_i e;rw[if_neg e]at h;cases h
 case tup l=>
  simp only[AV.kill]at h|-;split
  .rfl
  .rename_i e;rw[if_neg e]at h;cases h
 all_goals exact ykC (yFW h)
theorem yaD:∀{l:List Nat} {x:AV},(∀i,i∈l->i∉x.ids)->x.kills l=x
 |[],_,_=>rfl
 |a::l,x,h=>by
  show(x.kill a).kills l=x
  rw[yDG (h a (by simp))];exact yaD λi hi=>h i (by grind)
theorem yeW:∀{l:List Nat} {x:AV},(x.kills l).cl=true->x.kills l=x
 |[],_,_=>rfl
 |a::l,x,h=>by
  have h':((x.kill a).kills l).cl=true:=h;have e:=yeW h'
  show(x.kill a).kills l=x
  grind [yCf]
def yjb:∀{l:List Nat} {x:AV},(∀i,i∈l->i∉x.nP)->x.yhg l=x
 |[],_,_=>rfl
 |a::l,x,h=>by
  show(x.fV a).yhg l=x
  rw[ymU (h a (by simp))];exact yjb λi hi=>h i (by grind)
def yoi:∀{l:List Nat} {x:AV},(x.yhg l).cl1=true->x.yhg l=x
 |[],_,_=>rfl
 |a::l,x,h=>by
  have h':((x.fV a).yhg l).cl1=true:=h;have e:=yoi h'
  show(x.fV a).yhg l=x
  grind [ykC]
theorem rU{x:AV}{i:Nat}(h:i∈x.tJ):i∈x.nP:=by cases x<;>first|exact h|cases h
theorem yar{x:AV}{i:Nat}(h:i∈x.nP):i∈x.ids:=by
 cases x
 case agg l=>obtain⟨y,hy,hi⟩:=zaI.1 h;exact zaI.2 ⟨y,hy,rU hi⟩
 case fn f l=>obtain⟨y,hy,hi⟩:=zaI.1 h;exact zaI.2 ⟨y,hy,rU hi⟩
 all_goals first|exact h|cases h
def yhb:∀(l:List Nat) (cells:List AV),(Obj.box cells).kills l=.box (cells.map (AV.yhg l))
 |[],cells=>by
  show Obj.box cells=.box (cells.map (AV.yhg []))
  grind [ynP,AV.yhg]
 |a::l,cells=>by
  show(Obj.box (cells.map (AV.fV a))).kills l=_
  rw[yhb l,zdf];rfl
def yg6:∀(l:List Nat) {k:Nat} {rows:List (List C)},(Obj.row k rows).kills l=.row k rows
 |[],_,_=>rfl
 |a::l,k,rows=>yg6 l
def ylo:∀(l:List Nat) {kvs:List (Int×Int)},(Obj.mp kvs).kills l=.mp kvs
 |[],_=>rfl
 |a::l,kvs=>ylo l
def yhB:∀(l:List Nat) {k v:Nat} {rows:List (List C)},(Obj.tr k v rows).kills l=.tr k v rows
 |[],_,_,_=>rfl
 |a::l,k,v,rows=>yhB l
def Obj.bare:Obj->Prop
 | .box l=>∀x,x∈l->x.nP=[]
 |_=>True
def yA0{l:List Nat}{o:Obj}(h:o.bare):o.kills l=o:=by
 cases o with
 |none=>exact Obj.yaz l
 |box cells=>rw[yhb,ynP λx hx=>yjb λi _=>by rw[h x hx];simp]
 |mp kvs=>exact ylo l
 |row k rows=>exact yg6 l
 |tr k v rows=>exact yhB l
def ym2(Kl:List Nat)(U:List (Nat×Obj))(o:Obj)(i:Nat):Obj:=
 match U.find? (λp=>p.1==i)with
 |some p=>p.2
 |none=>if i∈Kl then .none else o.kills Kl
def St.act(s:St)(Kl:List Nat)(U:List (Nat×Obj))(d:Option Nat)(v:AV):St:=
 (⟨λt=>(s.env t).kills Kl,λi=>ym2 Kl U (s.yRU i) i⟩:St).put d v
theorem ynB{Kl:List Nat}{U:List (Nat×Obj)}{o:Obj}{i:Nat}(h1:i∉Kl)(h2:∀p,p∈U->p.1≠i):ym2 Kl U o i=o.kills Kl:=by
 grind [ym2]
def St.ext'{s s':St}(he:∀t,s.env t=s'.env t)(ho:∀i,s.yRU i=s'.yRU i):s=s':=by
 obtain⟨e,o⟩:=s;obtain⟨e',o'⟩:=s'
 congr<;>grind
theorem yC{s:St}{d:Option Nat}{v:AV}{t:Nat}(h:d≠some t):(s.put d v).env t=s.env t:=by
 cases d with
 |none=>rfl
 |some e=>show upd e v s.env t=_;grind [jG]
theorem put_eq{s:St}{d:Option Nat}{v:AV}{t:Nat}(h:d=some t):(s.put d v).env t=v:=by
 subst h;show upd t v s.env t=_;grind [jG]
theorem mJ{s:St}{d:Option Nat}{v:AV}:(s.put d v).yRU=s.yRU:=by cases d<;>rfl
theorem yeg{s:St}{Kl:List Nat}{U:List (Nat×Obj)}{d:Option Nat}{v:AV}{t:Nat}(h:d≠some t):(s.act Kl U d v).env t=(s.env t).kills Kl:=yC h
theorem yxX{s:St}{Kl:List Nat}{U:List (Nat×Obj)}{d:Option Nat}{v:AV}{t:Nat}(h:d=some t):(s.act Kl U d v).env t=v:=put_eq h
theorem ycn{s:St}{Kl:List Nat}{U:List (Nat×Obj)}{d:Option Nat}{v:AV}{i:Nat}:(s.act Kl U d v).yRU i=ym2 Kl U (s.yRU i) i:=by
 grind [mJ,St.act]
section
variable {P:Program} {ev ev':X->AV} {ob ob':Nat->Obj}
theorem yeO{op:IOp}(hq:op.reads.isSome=true){k:AV->Prop}(hx:∀x,x∈op.xs->ev' x=ev x)(h:dJ P op ev ob k):dJ P op ev' ob k:=by
 have ml:∀xs:List X,(∀x,x∈xs->ev' x=ev x)->xs.map ev'=xs.map ev:=λxs h=>zbg h
 have mo:∀x:Option X,(∀y,y∈x.toList->ev' y=ev y)->x.map ev'=x.map ev:=by
  intro x h;cases x with
  |none=>rfl
  |some x=>grind
 cases op<;>simp only[IOp.xs,zax,zaH,or_false,forall_eq_or_imp,forall_eq]at hx<;>simp only[dJ]at h|-
 all_goals first
  |exact h
  |(rw[hx.1,hx.2.1,hx.2.2];exact h)
  |(rw[hx.1,hx.2];exact h)
  |(rw[hx];exact h)
  |(rw[ml _ hx];exact h)
  |(rw[hx.1,ml _ hx.2];exact h)
  |(rw[hx.1,mo _ (λy hy=>hx.2 y (by simp[hy])),mo _ (λy hy=>hx.2 y (by simp[hy]))];exact h)
  |(rw[hx.1,mo _ (λy hy=>hx.2 y (by simp[hy])),mo _ (λy hy=>hx.2 y (by simp[hy])),mo _ (λy hy=>hx.2 y (by simp[hy]))];exact h)
  | (rw[<-ycu (s:=⟨λt=>ev (.t t),ob⟩)]
     .exact h
     .intro x hx';cases x with
      |t n=>exact(hx (.t n) hx').symm
      |k a=>rfl)
  | (rename_i n x
     grind)
def ymL(v:AV)(o o':Obj):Prop:=
 match o with
 | .box l=>∃l',o'=.box l'/\l'.length=l.length/\∀(j:Nat) (x:AV),l[j]?=some x->(v=x\/∃m,v=.agg m/\x∈m)->l'[j]?=some x
 |o=>o'=o
def ymL.refl(v:AV)(o:Obj):ymL v o o:=by
 cases o with
 |box l=>exact⟨l,rfl,rfl,λ_ _ h _=>h⟩
 |_=>rfl
def ymL.kills{v:AV}{l:List Nat}{o:Obj}(h:∀i,i∈l->i∉v.ids):ymL v o (o.kills l):=by
 cases o with
 |none=>exact Obj.yaz l
 |mp kvs=>exact ylo l
 |row k rows=>exact yg6 l
 |tr k u rows=>exact yhB l
 |box cells=>
  refine⟨_,yhb l cells,by simp,λj x hx hv=>?_⟩;rw[zau,hx,zaT,yjb];intro i hi hc;refine h i hi ?_;rcases hv with rfl|⟨m,rfl,hm⟩
  .exact yar hc
  .exact zaI.2 ⟨x,hm,hc⟩
def ymL.yLM{v:AV}{l:List Nat}{o:Obj}(h:v.cl=true):ymL v (o.kills l) o:=by
 cases o with
 |none=>rw[Obj.yaz];rfl
 |mp kvs=>rw[ylo];rfl
 |row k rows=>rw[yg6];rfl
 |tr k u rows=>rw[yhB];rfl
 |box cells=>
  rw[yhb];refine⟨_,rfl,by simp,λj x hx hv=>?_⟩;rw[zau,zam]at hx;obtain⟨y,hy,rfl⟩:=hx;rw[hy,yoi];rcases hv with rfl|⟨m,rfl,hm⟩
  .exact yFW h
  .exact zaf.1 h _ hm
def yxW{op:IOp}(hq:op.reads.isSome=true)(hc:op.qF=false){v:AV}(hob:∀x,x∈op.xs->∀i,i∈(ev x).ids->ymL v (ob i) (ob' i))(h:∀k:AV->Prop,k v->dJ P op ev ob k):∀k:AV->Prop,k v->dJ P op ev ob' k:=by
 intro k hk;have hv:=h (λr=>r=v) rfl;have hkk:=h k hk;have e1:∀id,(kX ob).ob id=ob id:=λ_=>rfl;have e2:∀id,(kX ob').ob id=ob' id:=λ_=>rfl;cases op
 case idx n x i=>
  simp only[dJ]at hkk hv|-;have hx:=hob x (by simp[IOp.xs]);revert hkk hx;generalize ev x=a;generalize ev i=b;intro hkk hx;unfold ymX at hkk|-;split at hkk<;>first|exact hkk|skip
  rename_i id ver i j k' m n;have hr:=hx id (by simp[AV.ids,AV.qV,AV.nP,AV.tJ]);rw[e1]at hkk;simp only[e2];cases ho:ob id<;>rw[ho]at hkk hr<;>first|exact hkk.elim|skip
  have hr':ob' id=_:=hr;rw[hr'];exact hkk
 case fld off x=>
  simp only[dJ]at hkk hv|-;have hx:=hob x (by simp[IOp.xs]);revert hkk hx;generalize ev x=a;intro hkk hx;unfold yny at hkk|-;split at hkk<;>first|exact hkk|skip
  rename_i id ver i j k' i' o;have hr:=hx id (by simp[AV.ids,AV.qV,AV.nP,AV.tJ]);rw[e1]at hkk;simp only[e2];cases ho:ob id<;>rw[ho]at hkk hr<;>first|exact hkk.elim|skip
  have hr':ob' id=_:=hr;rw[hr'];exact hkk
 case len x=>
  simp only[dJ]at hkk hv|-;have hx:=hob x (by simp[IOp.xs]);revert hkk hx;generalize ev x=a;intro hkk hx;unfold ylv at hkk|-;split at hkk<;>first|exact hkk|skip
  rename_i id ver i j k' n;have hr:=hx id (by simp[AV.ids,AV.qV,AV.nP,AV.tJ]);rw[e1]at hkk;simp only[e2];cases ho:ob id<;>rw[ho]at hkk hr<;>first|exact hkk.elim|skip
  have hr':ob' id=_:=hr;rw[hr'];exact hkk
 case sla m n x i=>
  simp only[dJ]at hkk hv|-;have hx:=hob x (by simp[IOp.xs]);revert hkk hx;generalize ev x=a;generalize ev i=b;intro hkk hx;unfold ypt at hkk|-;split at hkk<;>first|exact hkk.elim|skip
  rename_i id k' j h;have hr:=hx id (by simp[AV.ids,AV.qV,AV.nP,AV.tJ]);rw[e1]at hkk;simp only[e2];cases ho:ob id<;>rw[ho]at hkk hr<;>first|exact hkk.elim|skip
  have hr':ob' id=_:=hr;rw[hr'];exact hkk
 case ld1 x=>
  simp only[dJ]at hkk hv|-;have hx:=hob x (by simp[IOp.xs]);revert hkk hv hx;generalize ev x=a;intro hv hkk hx;unfold ylI at hkk hv|-;split at hkk
  .rename_i id o;have hr:=hx id (by simp[AV.ids,AV.qV,AV.nP,AV.tJ]);simp only[e1]at hkk hv;simp only[e2];cases ho:ob id<;>rw[ho]at hkk hr hv<;>first|exact hkk.elim|skip
   rename_i cells;obtain⟨l',e3,_,e4⟩:=hr;rw[e3];simp only at hv hkk|-;cases hc:cells[o]?<;>rw[hc]at hv
   .exact hv.elim
   .rename_i u;have hu:u=v:=hv;subst hu;rw[e4 o u hc (.inl rfl)];exact hk
  .rename_i id k' i o;have hr:=hx id (by simp[AV.ids,AV.qV,AV.nP,AV.tJ]);rw[e1]at hkk;simp only[e2];cases ho:ob id<;>rw[ho]at hkk hr<;>first|exact hkk.elim|skip
   all_goals
    have hr':ob' id=_:=hr;rw[hr'];exact hkk
  .rename_i id ver i j k' i' o;have hr:=hx id (by simp[AV.ids,AV.qV,AV.nP,AV.tJ]);rw[e1]at hkk;simp only[e2];cases ho:ob id<;>rw[ho]at hkk hr<;>first|exact hkk.elim|skip
   all_goals
    have hr':ob' id=_:=hr;rw[hr'];exact hkk
  .exact hkk
  .exact hkk.elim
 case ldn n x=>
  simp only[dJ]at hkk hv|-;have hx:=hob x (by simp[IOp.xs]);revert hkk hv hx;generalize ev x=a;intro hv hkk hx;unfold ylz at hkk hv|-;split at hkk
  .rename_i id o;have hr:=hx id (by simp[AV.ids,AV.qV,AV.nP,AV.tJ]);simp only[e1]at hkk hv;simp only[e2];cases ho:ob id<;>rw[ho]at hkk hr hv<;>first|exact hkk.elim|skip
   rename_i cells;obtain⟨l',e3,e5,e4⟩:=hr;rw[e3];simp only at hv hkk|-;obtain⟨h1,h2⟩:=hv;refine⟨by omega,?_⟩
   have:(l'.drop o).take n=(cells.drop o).take n:=by
    apply zbU;intro q;rw[zbv,zbv];split
    .rename_i hq;rw[zbD,zbD];have hlt:o+q<cells.length:=by omega
     have hg:=zab hlt;rw[hg];refine e4 _ _ hg (.inr ⟨_,h2.symm,?_⟩);refine zac (i:=q) ?_;rw[zbv,if_pos hq,zbD];exact hg
    .rfl
   rw[this];exact hkk.2
  .rename_i id k' i o;have hr:=hx id (by simp[AV.ids,AV.qV,AV.nP,AV.tJ]);rw[e1]at hkk;simp only[e2];cases ho:ob id<;>rw[ho]at hkk hr<;>first|exact hkk.elim|skip
   all_goals
    have hr':ob' id=_:=hr;rw[hr'];exact hkk
  .rename_i id ver i j k' i' o;have hr:=hx id (by simp[AV.ids,AV.qV,AV.nP,AV.tJ]);rw[e1]at hkk;simp only[e2];cases ho:ob id<;>rw[ho]at hkk hr<;>first|exact hkk.elim|skip
   all_goals
    have hr':ob' id=_:=hr;rw[hr'];exact hkk
  .exact hkk
  .exact hkk.elim
 case cvt n x=>
  match n,hq with
  |0,_=>exact hkk
  |1,_=>exact hkk
  |3,_=>exact hkk
 case bld zs ps=>
  simp only[dJ]at hkk|-;rw[<-ycu (s:=⟨λt=>ev (.t t),ob⟩)]
  .exact hkk
  .intro x _;cases x<;>rfl
 case call f xs=>cases hc
 case callv f xs=>cases hc
 all_goals first|exact hkk|(simp[IOp.reads]at hq)
def yt9{x y:AV}(h:∀i,i∈x.tJ->ob' i=ob i)(hh:out1 (kX ob) x y):out1 (kX ob') x y:=by
 have e1:∀id,(kX ob).ob id=ob id:=λ_=>rfl;have e2:∀id,(kX ob').ob id=ob' id:=λ_=>rfl;cases x<;>simp only[out1,e1,e2]at hh|-<;>first|exact hh|(rw[h _ (by simp[AV.tJ])];exact hh)
def yff:∀{l l':List AV},(∀x,x∈l->∀i,i∈x.tJ->ob' i=ob i)->ycm (kX ob) l l'->ycm (kX ob') l l'
 |[],[],_,_=>trivial
 |[],_::_,_,h=>h.elim
 |_::_,[],_,h=>h.elim
 |x::l,y::l',hx,h=>⟨yt9 (hx x (by simp)) h.1,yff (λz hz=>hx z (by simp[hz])) h.2⟩
def yAA{E:Nat->Prop}(hob:∀i,¬E i->ob' i=ob i)(hcell:∀i cells,ob i=.box cells->∀x,x∈cells->∀j,j∈x.tJ->¬E j){x y:AV}(h:∀j,j∈x.nP->¬E j)(hh:nZ (kX ob) x y):nZ (kX ob') x y:=by
 have e1:∀id,(kX ob).ob id=ob id:=λ_=>rfl;have e2:∀id,(kX ob').ob id=ob' id:=λ_=>rfl;have ne:∀{z:AV},(∀j,j∈z.tJ->¬E j)->∀i,i∈z.tJ->ob' i=ob i:=λhz i hi=>hob i (hz i hi);cases x
 case agg l=>
  cases y<;>simp only[nZ]at hh|-;exact yff (λz hz=>ne λj hj=>h j (zaI.2 ⟨z,hz,hj⟩)) hh
 case fn f l=>
  cases y<;>simp only[nZ]at hh|-;exact⟨hh.1,yff (λz hz=>ne λj hj=>h j (zaI.2 ⟨z,hz,hj⟩)) hh.2⟩
 case box id off=>
  have hid:ob' id=ob id:=hob id (h id (by simp[AV.nP,AV.tJ]));simp only[nZ,e1,e2]at hh|-;rw[hid];cases ho:ob id<;>rw[ho]at hh<;>first|exact hh.elim|skip
  rename_i cells;simp only at hh|-;split at hh
  .exact yff (λz hz=>ne (hcell id cells ho z (zaO hz))) hh
  .exact hh.elim
 all_goals exact yt9 (y:=y) (ne λj hj=>h j (rU hj)) hh
def rX{E:Nat->Prop}(hob:∀i,¬E i->ob' i=ob i)(hcell:∀i cells,ob i=.box cells->∀x,x∈cells->∀j,j∈x.tJ->¬E j):∀{l l':List AV},(∀x,x∈l->∀j,j∈x.nP->¬E j)->iO (kX ob) l l'->iO (kX ob') l l'
 |[],[],_,_=>trivial
 |[],_::_,_,h=>h.elim
 |_::_,[],_,h=>h.elim
 |x::l,y::l',hx,h=>⟨yAA hob hcell (hx x (by simp)) h.1,rX hob hcell (λz hz=>hx z (by simp[hz])) h.2⟩
def ysu{op:IOp}(hq:op.reads.isSome=true){E:Nat->Prop}(hob:∀i,¬E i->ob' i=ob i)(hcell:∀i cells,ob i=.box cells->∀x,x∈cells->∀j,j∈x.tJ->¬E j){v:AV}(hx:∀x,x∈op.xs->∀j,j∈(ev x).ids->¬E j)(h:∀k:AV->Prop,k v->dJ P op ev ob k):∀k:AV->Prop,k v->dJ P op ev ob' k:=by
 cases hc:op.qF with
 |false=>exact yxW hq hc (λx hx' i hi=>by rw[hob i (hx x hx' i hi)];exact ymL.refl _ _) h
 | true=>
  intro k hk;have hkk:=h k hk;cases op<;>first|cases hc|skip
  .simp only[dJ]at hkk|-;obtain⟨args,res,h1,h2,h3⟩:=hkk;refine⟨args,res,h1,rX hob hcell (λy hy=>?_) h2,h3⟩;obtain⟨x,hx',rfl⟩:=zaP.1 hy
   exactλj hj=>hx x hx' j (yar hj)
  .rename_i f xs;simp only[dJ]at hkk|-;have hf:=hx f (by simp[IOp.xs]);revert hkk hf;generalize ev f=fv;intro hkk hf;unfold yhz at hkk|-;split at hkk
   .rename_i f' l;obtain⟨h0,args,res,h1,h2,h3⟩:=hkk;refine⟨h0,args,res,h1,rX hob hcell (λy hy=>?_) h2,h3⟩;rcases zaj.1 hy with hy|hy
    .obtain⟨x,hx',rfl⟩:=zaP.1 hy
     exactλj hj=>hx x (by simp[IOp.xs,hx']) j (yar hj)
    .exactλj hj=>hf j (zaI.2 ⟨y,hy,hj⟩)
   .exact hkk.elim
def yzU{op:IOp}(hq:op.reads.isSome=true){e:Nat}(hob:∀i,i≠e->ob' i=ob i)(hcell:∀i cells,ob i=.box cells->∀x,x∈cells->e∉x.tJ){v:AV}(hx:∀x,x∈op.xs->e∉(ev x).ids)(h:∀k:AV->Prop,k v->dJ P op ev ob k):∀k:AV->Prop,k v->dJ P op ev ob' k:=
 ysu hq (E:=λi=>i=e) hob (λi cells hi x hx' j hj h=>hcell i cells hi x hx' (h▸hj)) (λx hx' j hj h=>hx x hx' (h▸hj)) h
end
end Go.Proofs.YtdadkiofenhnbaaGreat
namespace Go.Proofs.YtdadkiofenhnbaaGreat
open Go.RowKit
def AV.ypm:AV->Bool
 | .sub _ _ _ _ _ _=>false
 |_=>true
def yvd(op:IOp)(s:St):Bool:=
 match op with
 | .mv _=>true
 | .len x=>(s.ev x).ypm
 |_=>false
def yCt(a:AV)(l:List Nat):List Nat:=if a.ypm then l else[]
def lw(l:List Nat):List Nat:=l.map λi=>2*i
def lk(l:List Nat):List Nat:=l.map λi=>2*i+1
theorem yzo{l:List Nat}{j:Nat}:2*j∈lw l↔j∈l:=by
 grind [lw]
def yu5{l:List Nat}{j:Nat}:2*j+1∈lk l↔j∈l:=by
 grind [lk]
def yLs{l:List Nat}{j:Nat}:¬2*j+1∈lw l:=by
 grind [lw]
def yIJ{l:List Nat}{j:Nat}:¬2*j∈lk l:=by
 grind [lk]
def ybH(i:Ins)(s:St)(v:AV):Lab:=((if yvd i.op s then[]else lw ((i.op.xs.map s.ev).flatMap AV.ids))++lk ((v::i.op.xs.map s.ev).flatMap AV.ids),(v::i.op.xs.map s.ev).all AV.cl)
def yvS(i:Ins):Lab:=(lw i.d.toList++lk i.d.toList,true)
def ypD(s:St):AV->Bool
 | .row id _ _ _=>(s.ob id).tree
 |_=>false
def wOf(op:IOp)(s:St):List Nat:=
 match op with
 | .st1 x v| .stn _ x v=>(s.ev x).ids++(if ypD s (s.ev x)then(s.ev v).ids else[])
 | .app k _ x y=>(s.ev x).ids++(match dI s k (s.ev y)with|some _=>[]|none=>(s.ev y).ids)
 | .cp _ x _=>(s.ev x).ids
 | .bsl _ xs=>(xs.map s.ev).flatMap AV.ids
 |_=>[]
def kOf(op:IOp)(s:St):List Nat:=
 match op with
 | .st1 x v| .stn _ x v=>if ypD s (s.ev x)then(s.ev v).ids else[]
 | .cp _ _ _=>[]
 | .app k b x y=>yCt (s.ev x) (wOf (.app k b x y) s)
 |op=>wOf op s
def yHj(op:IOp)(d:Option Nat)(s:St):List Nat:=lw (wOf op s++d.toList)++lk (kOf op s++d.toList)
def yBR(i:Ins)(s:St):Lab:=(yHj i.op i.d s,true)
def ywj(k:Nat)(xs:List AV)(s:St)(d:Option Nat)(K:St->Prop):Prop:=
 match AV.rowsOf xs with
 |some rows=>(∀r∈rows,r.length=k)/\newP s d (.row k rows) (λd=>.own d k rows.length) K
 |none=>False
def ydf(P:Program)(d:Option Nat)(op:IOp)(s:St)(K:St->Prop):Prop:=
 match op with
 | .bsl k xs=>ywj k (xs.map s.ev) s d K
 |op=>kF P d op s K
section
variable {P:Program} {s:St} {K:St->Prop}
theorem yBy{op:IOp}{d:Option Nat}(h:ydf P d op s K):kF P d op s K:=by
 cases op
 case bsl k xs=>
  grind [ydf,ywj,kF,yru]
 all_goals exact h
def yGM{x:AV}{c:C}(h:x.toC=some c):x.tJ=[]/\x.cl1=true:=by
 cases x<;>first|exact⟨rfl,rfl⟩|cases h
theorem yo7:∀{l:List AV} {cs:List C},AV.yhD l=some cs->∀x,x∈l->∃c,x.toC=some c
 |[],_,_,x,hx=>by grind
 | y::l,cs,h,x,hx=>by
  simp[AV.yhD]at h;split at h
  .rename_i c1 cs1 h1 h2;rcases zax.1 hx with rfl|hx
   .simp_all
   .exact yo7 h2 x hx
  grind
def yDM{x:AV}{c:C}(h:x.toC=some c):x.ids=[]/\x.cl=true:=by
 cases x<;>first|exact⟨rfl,rfl⟩|cases h
def yCG{x:AV}{r:List C}(h:x.rowOf=some r):x.ids=[]/\x.cl=true:=by
 cases x
 case agg l=>
  have hb:=yo7 h;refine⟨?_,?_⟩
  .show l.flatMap _=[]
   rw[zcb];intro y hy;obtain⟨c,hc⟩:=hb y hy;cases y<;>first|rfl|cases hc
  .exact zaf.2 λy hy=>let⟨c,hc⟩:=hb y hy;(yGM hc).2
 all_goals
  obtain⟨c,hc⟩:=yo7 h _ (zak.2 rfl);exact yDM hc
theorem yqS:∀{l:List AV} {rows:List (List C)},AV.rowsOf l=some rows->∀x,x∈l->x.ids=[]/\x.cl=true
 |[],_,_,x,hx=>by grind
 | y::l,cs,h,x,hx=>by
  simp[AV.rowsOf]at h;split at h
  .rename_i c1 cs1 h1 h2;rcases zax.1 hx with rfl|hx
   .exact yCG h1
   .exact yqS h2 x hx
  grind
theorem aZ{d:Option Nat}{o:Obj}{v:Nat->AV}(h:newP s d o v K):∃e,d=some e/\s.yRU e=.none/\K ⟨upd e (v e) s.env,upd e o s.yRU⟩:=by
 unfold newP at h;split at h
 .obtain⟨h1,h2⟩:=h;exact⟨_,rfl,yaa h1,h2⟩
 grind
theorem ych{e:Nat}{o:Obj}{v:Nat->AV}(h0:s.yRU e=.none)(h:K ⟨upd e (v e) s.env,upd e o s.yRU⟩):newP s (some e) o v K:=
 ⟨by show(s.yRU e).isNone=true;rw[h0];rfl,h⟩
theorem yIx{op:IOp}(ho:op.isMk=true){d:Option Nat}(h:ydf P d op s K):∃e o v,d=some e/\s.yRU e=.none/\K ⟨upd e v s.env,upd e o s.yRU⟩/\(o.bare/\o≠.none)/\(∀j,j∈v.ids->j=e)/\
 (∀x,x∈op.xs->(s.ev x).ids=[]/\(s.ev x).cl=true)/\∀s2:St,(∀x,x∈op.xs->s2.ev x=s.ev x)->s2.yRU e=.none->∀K2:St->Prop,K2 ⟨upd e v s2.env,upd e o s2.yRU⟩->ydf P d op s2 K2:=by
 cases op<;>first|cases ho|skip
 case alloc zs=>
  obtain⟨e,rfl,h0,hK⟩:=aZ h;refine⟨e,_,_,rfl,h0,hK,⟨?_,by simp⟩,?_,λx hx=>(by cases hx),λs2 _ h2 K2 hK2=>(show newP s2 (some e) (.box zs) (λd=>.box d 0) K2 from ych h2 hK2)⟩
  .intro x hx
   have h1:x.ids=[]:=by
    have:zs.all (λz=>z.ids.isEmpty)=true:=ho
    grind
   rw[List.eq_nil_iff_forall_not_mem];intro i hi;have:=yar hi
   grind
  simp_all [AV.ids,AV.qV,AV.nP,AV.tJ]
 case alloca k n z=>
  obtain⟨e,rfl,h0,hK⟩:=aZ h;exact⟨e,_,_,rfl,h0,hK,⟨trivial,by simp⟩,λj hj=>by simp_all [AV.ids,AV.qV,AV.nP,AV.tJ],λx hx=>(by cases hx),λs2 _ h2 K2 hK2=>(show newP s2 (some e) (.row k (List.replicate n z)) (λd=>.row d k 0 0) K2 from ych h2 hK2)⟩
 case mks k b z l c=>
  simp only[ydf,kF]at h;have h':=h;revert h';generalize hl:s.ev l=vl;generalize hc:s.ev c=vc;intro h';unfold yvA at h';split at h'
  .rename_i n m;obtain⟨h1,h2,h3,h4⟩:=h';rcases h4 with h4|h4
   case inr=>
    split at h4
    case h_2=>grind
    obtain⟨e,rfl,h0,hK⟩:=aZ h4;refine⟨e,_,_,rfl,h0,hK,⟨trivial,by simp⟩,λj hj=>by grind [AV.ids,AV.qV,AV.nP,AV.tJ],?_,λs2 hx h5 K2 hK2=>?_⟩
    .intro x hx;simp only[IOp.xs,zax,zaH,or_false]at hx;rcases hx with rfl|rfl
     .rw[hl];exact⟨rfl,rfl⟩
     .rw[hc];exact⟨rfl,rfl⟩
    .simp only[ydf,kF];rw[hx l (by simp[IOp.xs]),hx c (by simp[IOp.xs]),hl,hc];exact⟨h1,h2,h3,.inr (ych h5 hK2)⟩
   obtain⟨e,rfl,h0,hK⟩:=aZ h4;refine⟨e,_,_,rfl,h0,hK,⟨trivial,by simp⟩,λj hj=>by grind [AV.ids,AV.qV,AV.nP,AV.tJ],?_,λs2 hx h5 K2 hK2=>?_⟩
   .intro x hx;simp only[IOp.xs,zax,zaH,or_false]at hx;rcases hx with rfl|rfl
    .rw[hl];exact⟨rfl,rfl⟩
    .rw[hc];exact⟨rfl,rfl⟩
   .simp only[ydf,kF];rw[hx l (by simp[IOp.xs]),hx c (by simp[IOp.xs]),hl,hc];exact⟨h1,h2,h3,.inl (ych h5 hK2)⟩
  grind
 case bsl k xs=>
  simp only[ydf,ywj]at h;cases hr:AV.rowsOf (xs.map s.ev)<;>rw[hr]at h
  .grind
  .rename_i rows;obtain⟨h1,h2⟩:=h;obtain⟨e,rfl,h0,hK⟩:=aZ h2;refine⟨e,_,_,rfl,h0,hK,⟨trivial,by simp⟩,λj hj=>by simp_all [AV.ids,AV.qV,AV.nP,AV.tJ],λx hx=>yqS hr _ (zbx hx),λs2 hx h5 K2 hK2=>?_⟩;simp only[ydf,ywj];rw[zbg (l:=xs) hx,hr]
   grind [ych]
theorem bT{id:Nat}{o:Obj}{v:AV}{d:Option Nat}:(s.iG id o).put d v=s.act [] [(id,o)] d v:=by
 congr 1
 refine St.ext' (λt=>rfl) λi=>?_
 show upd _ o _ i=ym2 _ _ _ i
 grind [jG,ym2,Obj.kills]
theorem pU{ids:List Nat}{id:Nat}{o:Obj}{v:AV}{d:Option Nat}:((s.drops ids).iG id o).put d v=s.act ids [(id,o)] d v:=by
 congr 1
 refine St.ext' (λt=>St.ydJ _ s t) λi=>?_
 show upd _ o _ i=ym2 _ _ _ i
 grind [jG,St.pV,ym2]
theorem yw1{id:Nat}{o:Obj}{v:AV}{d:Option Nat}:(s.renew id o).put d v=s.act [id] [(id,o)] d v:=by
 congr 1
 refine St.ext' (λt=>rfl) λi=>?_
 show upd _ o (λi=>(s.yRU i).kill _) i=ym2 _ _ _ i
 grind [jG,ym2,Obj.kills]
def yln{e:Nat}{o:Obj}{v:AV}:(⟨upd e v s.env,upd e o s.yRU⟩:St)=s.act [] [(e,o)] (some e) v:=by
 rw[<-bT];rfl
def yoN{e id:Nat}{o:Obj}{v:AV}:(⟨upd e v (s.drop id).env,upd e o (s.drop id).yRU⟩:St)=s.act [id] [(e,o)] (some e) v:=by
 have:=pU (s:=s) (ids:=[id]) (id:=e) (o:=o) (v:=v) (d:=some e);rw[<-this];rfl
theorem ykW{id idy:Nat}{o:Obj}{v:AV}{d:Option Nat}:((s.drop idy).renew id o).put d v=s.act [idy,id] [(id,o)] d v:=by
 congr 1
 refine St.ext' (λt=>rfl) λi=>?_
 show upd _ o (λi=>((s.drop _).yRU i).kill _) i=ym2 _ _ _ i
 unfold ym2;rw[jG]
 by_cases e:i=id
 .grind
 .have e2:¬id=i:=by grind
  rw[if_neg e];simp[zdN,List.find?_nil,beq_eq_false_iff_ne.2 e2]
  show(upd _ _ (λi=>(s.yRU i).kill _) i).kill _=_
  grind [jG,Obj.kill,Obj.kills]
theorem yci{id e:Nat}{o o':Obj}(ho:∀i,o.kill i=o){v:AV}{d:Option Nat}:((s.iG id o).renew e o').put d v=s.act [e] [(e,o'),(id,o)] d v:=by
 congr 1
 refine St.ext' (λt=>rfl) λi=>?_
 show upd e _ (λi=>(upd _ o _ i).kill e) i=ym2 _ _ _ i
 grind [jG,ym2,Obj.kills]
theorem yFQ{s s2:St}{x:AV}(h:∀i,i∈x.tJ->s2.yRU i=s.yRU i):pk1 s2 x=pk1 s x:=by
 cases x<;>first|rfl|skip
 rename_i id k n;have:s2.ob _=s.ob _:=h id (by simp[AV.tJ])
 grind [pk1]
theorem yB6{s s2:St}:∀{l:List AV},(∀x,x∈l->∀i,i∈x.tJ->s2.yRU i=s.yRU i)->pkl s2 l=pkl s l
 |[],_=>rfl
 |x::l,h=>by
  simp[pkl];rw[yFQ (h x (by simp)),yB6 λy hy=>h y (by grind)]
theorem yDh{x:AV}{c:C}{l:List Nat}(h:pk1 s x=some (c,l)):∀i,i∈l->i∈x.tJ:=by
 unfold pk1 at h
 split at h<;>first
  |(cases h;intro i hi;cases hi)
  |(split at h<;>first
   |(cases h;intro i hi;cases hi)
   |(split at h<;>cases h;intro i hi;exact hi)
   |cases h)
  |cases h
theorem yyX:∀{l:List AV} {cs:List C} {ids:List Nat},pkl s l=some (cs,ids)->∀i,i∈ids->∃x,x∈l/\i∈x.tJ
 |[],_,_,h,i,hi=>by cases h;grind
 | x::l,cs,ids,h,i,hi=>by
  simp[pkl]at h;split at h
  .rename_i c a cs' as h1 h2;cases h;rcases zaj.1 hi with hi|hi
   .exact⟨x,by simp,yDh h1 i hi⟩
   .obtain⟨y,hy,h3⟩:=yyX h2 i hi
    grind
  grind
theorem yGi{s s2:St}{k:Nat}{x:AV}(h:∀i,i∈x.ids->s2.yRU i=s.yRU i):dI s2 k x=dI s k x/\ydk s2 k x=ydk s k x:=by
 cases x<;>first|exact⟨rfl,rfl⟩|(rename_i c;cases c<;>exact⟨rfl,rfl⟩)|skip
 .rename_i id k' n;have:s2.ob _=s.ob _:=h id (by simp[AV.ids,AV.qV,AV.nP,AV.tJ])
  grind [dI,ydk]
 .rename_i id k' lo n;have:s2.ob _=s.ob _:=h id (by simp[AV.ids,AV.qV,AV.nP,AV.tJ])
  grind [dI,ydk]
theorem yEi{k idy:Nat}{x:AV}{new:List (List C)}(h:ydk s k x=some (idy,new)):idy∈x.ids:=by
 unfold ydk at h
 grind [AV.ids,AV.qV,AV.nP,AV.tJ]
end
structure ySB(P:Program)(op:IOp)(d:Option Nat)(s:St)(W KW:List Nat)(Kl:List Nat)(U:List (Nat×Obj))(v:AV):Prop where
 kl:∀j,j∈Kl->j∈KW
 up:∀p,p∈U->p.1∈W
 again:∀s2:St,(∀x,x∈op.xs->s2.ev x=s.ev x)->(∀x,x∈op.xs->∀j,j∈(s.ev x).ids->s2.yRU j=s.yRU j)->(∀e,d=some e->s.yRU e=.none->s2.yRU e=.none)->∀K2:St->Prop,K2 (s2.act Kl U d v)->kF P d op s2 K2
section
variable {P:Program} {s:St} {K:St->Prop}
theorem yHC{x v:X}{d:Option Nat}(h:kF P d (.st1 x v) s K):∃Kl U u,K (s.act Kl U d u)/\ySB P (.st1 x v) d s (wOf (.st1 x v) s++d.toList) (kOf (.st1 x v) s++d.toList) Kl U u:=by
 simp[kF]at h
 have again:∀{Kl U u},(∀s2,(∀j,j∈(s.ev x).ids->s2.ob j=s.ob j)->(∀j,j∈(s.ev v).ids->s2.yRU j=s.yRU j)->∀K2:St->Prop,K2 (s2.act Kl U d u)->ylB s2 (s.ev x) (s.ev v) λs'=>K2 (s'.put d .und))->
  ∀s2,(∀y,y∈(IOp.st1 x v).xs->s2.ev y=s.ev y)->(∀y,y∈(IOp.st1 x v).xs->∀j,j∈(s.ev y).ids->s2.yRU j=s.yRU j)->(∀e,d=some e->s.yRU e=.none->s2.yRU e=.none)->∀K2,K2 (s2.act Kl U d u)->kF P d (.st1 x v) s2 K2:=by
  intro Kl U u hh s2 hx hob _ K2 hK2;simp[kF];rw[hx x (by simp[IOp.xs]),hx v (by simp[IOp.xs])];exact hh _ (λj hj=>hob x (by simp[IOp.xs]) j hj) (λj hj=>hob v (by simp[IOp.xs]) j hj) _ hK2
 have hw:∀j,j∈(s.ev x).ids->j∈wOf (.st1 x v) s++d.toList:=λj hj=>by simp[wOf,hj]
 revert h again hw;generalize hx:s.ev x=a;generalize hv:s.ev v=b;intro h again hw;unfold ylB at h;split at h
 .rename_i id o;cases ho:s.ob _<;>rw[ho]at h<;>first|grind|skip
  obtain⟨h1,h2,h3⟩:=h;rw[bT]at h3;refine⟨_,_,_,h3,by simp_all,λp hp=>?_,again λs2 e1 _ K2 hK2=>?_⟩
  .grind [AV.ids,AV.qV,AV.nP,AV.tJ]
  grind [bT,ylB,AV.ids,AV.qV,AV.nP,AV.tJ]
 .rename_i id k i o;cases ho:s.ob _<;>rw[ho]at h<;>first|exact h.elim|skip
  .cases hc:b.toC<;>rw[hc]at h<;>first|grind|skip
   obtain⟨h1,h2,h3,h4⟩:=h;rw[bT]at h4;refine⟨_,_,_,h4,λj hj=>(by grind),λp hp=>?_,again λs2 e1 _ K2 hK2=>?_⟩
   .grind [AV.ids,AV.qV,AV.nP,AV.tJ]
   grind [bT,ylB,AV.ids,AV.qV,AV.nP,AV.tJ]
  .cases hp:pk1 s b<;>rw[hp]at h<;>first|exact h.elim|skip
   rename_i q;obtain⟨h1,h2,h3,h4,h5,h6⟩:=h;rw[pU]at h6;have htr:ypD s (s.ev x)=true:=by grind [ypD,Obj.tree]
   refine⟨_,_,_,h6,λj hj=>?_,λp hp=>?_,again λs2 e1 e2 K2 hK2=>?_⟩
   .grind [yDh,yar,rU,kOf]
   .grind [AV.ids,AV.qV,AV.nP,AV.tJ]
   grind [yFQ,yar,rU,pU,ylB,AV.tJ]
 .rename_i id ver i j k i' o;cases ho:s.ob _<;>rw[ho]at h<;>first|exact h.elim|skip
  obtain⟨h0,h⟩:=h;split at h
  .rename_i k' rs hcell;cases hc:b.toC<;>rw[hc]at h<;>first|exact h.elim|skip
   obtain⟨h1,h2,h3,h4⟩:=h;rw[bT]at h4;refine⟨_,_,_,h4,λj hj=>(by grind),λp hp=>?_,again λs2 e1 _ K2 hK2=>?_⟩
   .grind [AV.ids,AV.qV,AV.nP,AV.tJ]
   grind [bT,ylB,AV.ids,AV.qV,AV.nP,AV.tJ]
  grind
 grind
theorem yGO{n:Nat}{x v:X}{d:Option Nat}(h:kF P d (.stn n x v) s K):∃Kl U u,K (s.act Kl U d u)/\ySB P (.stn n x v) d s (wOf (.stn n x v) s++d.toList) (kOf (.stn n x v) s++d.toList) Kl U u:=by
 simp[kF]at h
 have again:∀{Kl U u},(∀s2,(∀j,j∈(s.ev x).ids->s2.ob j=s.ob j)->(∀j,j∈(s.ev v).ids->s2.yRU j=s.yRU j)->∀K2:St->Prop,K2 (s2.act Kl U d u)->ynn n s2 (s.ev x) (s.ev v) λs'=>K2 (s'.put d .und))->
  ∀s2,(∀y,y∈(IOp.stn n x v).xs->s2.ev y=s.ev y)->(∀y,y∈(IOp.stn n x v).xs->∀j,j∈(s.ev y).ids->s2.yRU j=s.yRU j)->(∀e,d=some e->s.yRU e=.none->s2.yRU e=.none)->∀K2,K2 (s2.act Kl U d u)->kF P d (.stn n x v) s2 K2:=by
  intro Kl U u hh s2 hx hob _ K2 hK2;simp[kF];rw[hx x (by simp[IOp.xs]),hx v (by simp[IOp.xs])];exact hh _ (λj hj=>hob x (by simp[IOp.xs]) j hj) (λj hj=>hob v (by simp[IOp.xs]) j hj) _ hK2
 have hw:∀j,j∈(s.ev x).ids->j∈wOf (.stn n x v) s++d.toList:=λj hj=>by simp[wOf,hj]
 revert h again hw;generalize hx:s.ev x=a;generalize hv:s.ev v=b;intro h again hw;unfold ynn at h;split at h
 .rename_i l;obtain⟨h0,h⟩:=h;split at h
  .rename_i id o;cases ho:s.ob _<;>rw[ho]at h<;>first|grind|skip
   obtain⟨h1,h2,h3⟩:=h;rw[bT]at h3;refine⟨_,_,_,h3,by grind,λp hp=>?_,again λs2 e1 _ K2 hK2=>?_⟩
   .grind [AV.ids,AV.qV,AV.nP,AV.tJ]
   grind [bT,ynn,AV.ids,AV.qV,AV.nP,AV.tJ]
  .rename_i id k i o;cases ho:s.ob _<;>rw[ho]at h<;>first|exact h.elim|skip
   .cases hc:AV.yhD l<;>rw[hc]at h<;>first|exact h.elim|skip
    obtain⟨h1,h2,h3,h4⟩:=h;rw[bT]at h4;refine⟨_,_,_,h4,by grind,λp hp=>?_,again λs2 e1 _ K2 hK2=>?_⟩
    .grind [AV.ids,AV.qV,AV.nP,AV.tJ]
    grind [bT,ynn,AV.ids,AV.qV,AV.nP,AV.tJ]
   .cases hp:pkl s l<;>rw[hp]at h<;>first|exact h.elim|skip
    rename_i q;obtain⟨h1,h2,h3,h4,h5,h6⟩:=h;rw[pU]at h6;have htr:ypD s (s.ev x)=true:=by grind [ypD,Obj.tree]
    have hin:∀y,y∈l->∀j,j∈y.tJ->j∈(AV.agg l).ids:=λy hy j hj=>zaI.2 ⟨y,hy,rU hj⟩;refine⟨_,_,_,h6,λj hj=>?_,λp hp=>?_,again λs2 e1 e2 K2 hK2=>?_⟩
    .grind [yyX,kOf]
    .grind [AV.ids,AV.qV,AV.nP,AV.tJ]
    grind [yB6,pU,ynn,AV.ids,AV.qV,AV.nP,AV.tJ]
  grind
 grind
theorem yFZ {k b:Nat} {x v:X} {d:Option Nat} (h:kF P d (.app k b x v) s K):∃Kl U u,K (s.act Kl U d u)/\ySB P (.app k b x v) d s (wOf (.app k b x v) s++d.toList) (kOf (.app k b x v) s++d.toList) Kl U u:=by
 simp[kF]at h
 have again:∀{Kl U u},(∀s2,(∀j,j∈(s.ev x).ids->s2.ob j=s.ob j)->(dI s2 k (s.ev v)=dI s k (s.ev v))->(ydk s2 k (s.ev v)=ydk s k (s.ev v))->(∀e,d=some e->s.yRU e=.none->s2.yRU e=.none)->∀K2,K2 (s2.act Kl U d u)->yjm k b s2 d (s.ev x) (s.ev v) K2)->
  ∀s2,(∀y,y∈(IOp.app k b x v).xs->s2.ev y=s.ev y)->(∀y,y∈(IOp.app k b x v).xs->∀j,j∈(s.ev y).ids->s2.yRU j=s.yRU j)->(∀e,d=some e->s.yRU e=.none->s2.yRU e=.none)->∀K2,K2 (s2.act Kl U d u)->kF P d (.app k b x v) s2 K2:=by
  intro Kl U u hh s2 hx hob hn K2 hK2;simp[kF];rw[hx x (by simp[IOp.xs]),hx v (by simp[IOp.xs])];have hs:=yGi (k:=k) λj hj=>hob v (by simp[IOp.xs]) j hj;exact hh _ (λj hj=>hob x (by simp[IOp.xs]) j hj) hs.1 hs.2 hn _ hK2
 have hw:∀j,j∈(s.ev x).ids->j∈wOf (.app k b x v) s++d.toList:=λj hj=>by simp[wOf,hj]
 have hwv:∀j,dI s k (s.ev v)=none->j∈(s.ev v).ids->j∈wOf (.app k b x v) s++d.toList:=λj e hj=>by simp[wOf,hj,e]
 have hwd:∀j,d=some j->j∈wOf (.app k b x v) s++d.toList:=by grind
 have sid:∀{id k n},id∈(AV.own id k n).ids:=by simp[AV.ids,AV.qV,AV.nP,AV.tJ]
 revert h again hw hwv;generalize hx:s.ev x=a;generalize hv:s.ev v=y;intro h again hw hwv;unfold yjm at h;split at h
 .rename_i new hnew;split at h
  .obtain⟨h1,h2⟩:=h;obtain⟨e,rfl,h0,hK⟩:=aZ h2;rw[yln]at hK;refine⟨_,_,_,hK,by simp_all,λp hp=>?_,again λs2 e1 e2 e3 hn K2 hK2=>?_⟩
   .simp[zak]at hp;subst hp;grind
   .unfold yjm;rw[e2,hnew];refine⟨h1,ych (hn e rfl h0) ?_⟩;rw[yln];exact hK2
  .obtain⟨h1,h1',h1'',h2⟩:=h;obtain⟨e,rfl,h0,hK⟩:=aZ h2;rw[yln]at hK;refine⟨_,_,_,hK,by grind,λp hp=>?_,again λs2 e1 e2 e3 hn K2 hK2=>?_⟩
   .simp[zak]at hp;subst hp;grind
   .unfold yjm;rw[e2,hnew];refine⟨h1,h1',h1'',ych (hn e rfl h0) ?_⟩;rw[yln];exact hK2
  .rename_i id k' n;cases ho:s.ob _<;>rw[ho]at h<;>first|exact h.elim|skip
   all_goals
    obtain⟨h1,h2,h3,h4⟩:=h;rw[yw1]at h4;refine⟨_,_,_,h4,λj hj=>?_,λp hp=>?_,again λs2 e1 e2 e3 hn K2 hK2=>?_⟩
    .simp[zak]at hj;subst hj;rw[show kOf _ s=wOf (.app k b x v) s by simp[kOf,yCt,hx,AV.ypm]];exact hw _ sid
    .simp[zak]at hp;subst hp;exact hw _ sid
    .unfold yjm;rw[e2,hnew];simp;rw[e1 _ sid,ho];exact⟨h1,h2,h3,by rw[yw1];exact hK2⟩
  .rename_i id ver i j k' n;have sid2:id∈(AV.sub id ver i j k' n).ids:=by simp[AV.ids,AV.qV,AV.nP,AV.tJ]
   cases ho:s.ob _<;>rw[ho]at h<;>first|exact h.elim|skip
   obtain⟨h0,h⟩:=h;split at h
   .rename_i k2 rs hcell;obtain⟨h1,h2,h3,h⟩:=h;cases d with
    |none=>exact h.elim
    | some e=>
     obtain⟨h4,h5⟩:=h;have h4':=yaa h4;rw[yci (λ_=>rfl)]at h5;refine⟨_,_,_,h5,λq hq=>?_,λp hp=>?_,again λs2 e1 e2 e3 hn K2 hK2=>?_⟩
     .simp[zak]at hq;subst hq;exact zaQ _ (by simp)
     .simp[zax,zaH,or_false]at hp;rcases hp with rfl|rfl
      .exact hwd _ rfl
      .exact hw _ sid2
     .unfold yjm;rw[e2,hnew];simp;rw[e1 _ sid2,ho];simp[hcell];refine⟨h0,h1,h2,h3,?_,by rw[yci (λ_=>rfl)];exact hK2⟩
      show(s2.yRU e).isNone=true
      rw[hn e rfl h4'];rfl
   .rename_i k2 rs hcell;obtain⟨h1,h2,h3,h⟩:=h;cases d with
    |none=>exact h.elim
    | some e=>
     obtain⟨h4,h5⟩:=h;have h4':=yaa h4;rw[yci (λ_=>rfl)]at h5;refine⟨_,_,_,h5,λq hq=>?_,λp hp=>?_,again λs2 e1 e2 e3 hn K2 hK2=>?_⟩
     .simp[zak]at hq;subst hq;exact zaQ _ (by simp)
     .simp only[zax,zaH,or_false]at hp;rcases hp with rfl|rfl
      .exact hwd _ rfl
      .exact hw _ sid2
     .unfold yjm;rw[e2,hnew];simp only;rw[e1 id sid2,ho];simp only[hcell];refine⟨h0,h1,h2,h3,?_,by rw[yci (λ_=>rfl)];exact hK2⟩
      show(s2.yRU e).isNone=true
      rw[hn e rfl h4'];rfl
   .exact h.elim
  .exact h.elim
 .rename_i hnone;split at h
  .rename_i idy new hnew;have hy:idy∈y.ids:=yEi hnew;split at h
   .obtain⟨h1,h2⟩:=h;obtain⟨e,rfl,h0,hK⟩:=aZ h2;rw[yoN]at hK;refine⟨_,_,_,hK,λj hj=>?_,λp hp=>?_,again λs2 e1 e2 e3 hn K2 hK2=>?_⟩
    .simp only[zak]at hj;subst hj;rw[show kOf (.app k b x v) s=wOf (.app k b x v) s by simp[kOf,yCt,hx,AV.ypm]];exact hwv _ hnone hy
    .simp only[zak]at hp;subst hp;exact hwd _ rfl
    .unfold yjm;rw[e2,hnone,e3,hnew];refine⟨h1,ych ?_ ?_⟩
     .have h0':upd idy Obj.none (λi=>(s.yRU i).kill idy) e=.none:=h0
      show upd idy Obj.none (λi=>(s2.yRU i).kill idy) e=.none
      rw[jG]at h0'|-;split
      .rfl
      .rename_i hne;rw[if_neg hne]at h0'
       have:s.yRU e=.none:=by
        cases hs:s.yRU e with
        |none=>rfl
        |_=>exact absurd h0' ((Obj.ypk _ _).2 (by rw[hs];simp))
       rw[hn e rfl this];rfl
     .rw[yoN];exact hK2
   .rename_i id k' n;obtain⟨hne,h⟩:=h;cases ho:s.ob id<;>rw[ho]at h<;>first|exact h.elim|skip
    all_goals
     obtain⟨h1,h2,h3,h4⟩:=h;rw[ykW]at h4;refine⟨_,_,_,h4,λj hj=>?_,λp hp=>?_,again λs2 e1 e2 e3 hn K2 hK2=>?_⟩
     .simp only[zax,zaH,or_false]at hj;rw[show kOf (.app k b x v) s=wOf (.app k b x v) s by simp[kOf,yCt,hx,AV.ypm]];rcases hj with rfl|rfl
      .exact hwv _ hnone hy
      .exact hw _ sid
     .simp only[zak]at hp;subst hp;exact hw _ sid
     .unfold yjm;rw[e2,hnone,e3,hnew];simp only;rw[e1 id sid,ho];exact⟨hne,h1,h2,h3,by rw[ykW];exact hK2⟩
   .exact h.elim
  .exact h.elim
theorem yIN{k:Nat}{x v:X}{d:Option Nat}(h:kF P d (.cp k x v) s K):∃Kl U u,K (s.act Kl U d u)/\ySB P (.cp k x v) d s (wOf (.cp k x v) s++d.toList) (kOf (.cp k x v) s++d.toList) Kl U u:=by
 simp[kF]at h
 have again:∀{Kl U u},(∀s2,(∀j,j∈(s.ev x).ids->s2.ob j=s.ob j)->(dI s2 k (s.ev v)=dI s k (s.ev v))->∀K2,K2 (s2.act Kl U d u)->cpP k s2 d (s.ev x) (s.ev v) K2)->
  ∀s2,(∀y,y∈(IOp.cp k x v).xs->s2.ev y=s.ev y)->(∀y,y∈(IOp.cp k x v).xs->∀j,j∈(s.ev y).ids->s2.yRU j=s.yRU j)->(∀e,d=some e->s.yRU e=.none->s2.yRU e=.none)->∀K2,K2 (s2.act Kl U d u)->kF P d (.cp k x v) s2 K2:=by
  intro Kl U u hh s2 hx hob hn K2 hK2;simp[kF];rw[hx x (by simp[IOp.xs]),hx v (by simp[IOp.xs])];have hs:=yGi (k:=k) λj hj=>hob v (by simp[IOp.xs]) j hj;exact hh _ (λj hj=>hob x (by simp[IOp.xs]) j hj) hs.1 _ hK2
 have hw:∀j,j∈(s.ev x).ids->j∈wOf (.cp k x v) s++d.toList:=λj hj=>by simp[wOf,hj]
 have sid:∀{id k n},id∈(AV.own id k n).ids:=by simp[AV.ids,AV.qV,AV.nP,AV.tJ]
 revert h again hw;generalize hx:s.ev x=a;intro h again hw;unfold cpP at h;split at h
 .rename_i new hnew;split at h
  .rename_i id k' n;cases ho:s.ob _<;>rw[ho]at h<;>first|grind|skip
   obtain⟨h1,h2,h3⟩:=h;rw[bT]at h3;refine⟨_,_,_,h3,by grind,λp hp=>?_,again λs2 e1 e2 K2 hK2=>?_⟩
   .simp[zak]at hp;subst hp;exact hw _ sid
   .unfold cpP;rw[e2,hnew];simp;rw[e1 _ sid,ho];exact⟨h1,h2,by rw[bT];exact hK2⟩
  .exact h.elim
 .exact h.elim
def yFz{s s2:St}:∀{l:List AV},(∀x,x∈l->∀y,y∈x.cellsOf->∀i,i∈y.tJ->s2.yRU i=s.yRU i)->pks s2 l=pks s l
 |[],_=>rfl
 |x::l,h=>by
  simp[pks];rw[yB6 (h x (by simp)),yFz λy hy=>h y (by simp[hy])]
theorem yDn:∀{l:List AV} {cs:List (List C)} {ids:List Nat},pks s l=some (cs,ids)->∀i,i∈ids->∃x,x∈l/\∃y,y∈x.cellsOf/\i∈y.tJ
 |[],_,_,h,i,hi=>by cases h;cases hi
 | x::l,cs,ids,h,i,hi=>by
  simp[pks]at h;split at h
  .rename_i c a cs' as h1 h2;cases h;rcases zaj.1 hi with hi|hi
   .exact⟨x,by simp,yyX h1 i hi⟩
   .obtain⟨y,hy,h3⟩:=yDn h2 i hi
    grind
  .cases h
def yqY{x y:AV}(hy:y∈x.cellsOf){i:Nat}(hi:i∈y.tJ):i∈x.ids:=by
 cases x
 case agg l=>exact zaI.2 ⟨y,hy,rU hi⟩
 all_goals
  simp[AV.cellsOf,zak]at hy;subst hy;exact yar (rU hi)
theorem yFJ{k:Nat}{xs:List X}{d:Option Nat}(h:kF P d (.bsl k xs) s K):∃Kl U u,K (s.act Kl U d u)/\ySB P (.bsl k xs) d s (wOf (.bsl k xs) s++d.toList) (kOf (.bsl k xs) s++d.toList) Kl U u:=by
 simp[kF]at h;have h':=h;unfold yru at h';cases hr:AV.rowsOf _<;>rw[hr]at h'<;>simp at h'
 .cases hp:pks s _<;>rw[hp]at h'<;>first|simp_all|skip
  rename_i q;obtain⟨rows,ids⟩:=q;obtain⟨h1,h2,h3⟩:=h';obtain⟨e,rfl,h0,hK⟩:=aZ h3;have hact:∀s3:St,(⟨upd e _ (s3.drops _).env,upd e _ _⟩:St)=s3.act ids [(e,.tr k 0 rows)] (some e) (.own e k rows.length):=λs3=>by rw[<-pU];rfl
  rw[hact]at hK;refine⟨_,_,_,hK,λj hj=>?_,λp hp'=>?_,λs2 e1 e2 e3 K2 hK2=>?_⟩
  .obtain⟨x,hx,y,hy,hj'⟩:=yDn hp j hj;exact zbi _ (zaI.2 ⟨x,hx,yqY hy hj'⟩)
  .simp[zak]at hp';subst hp';simp
  .have em:xs.map _=xs.map _:=zbg e1;simp[kF,yru];rw[em,hr]
   rw[yFz (s:=s) λx hx y hy i hi=>by
    obtain⟨z,hz,rfl⟩:=zaP.1 hx;exact e2 z hz i (yqY hy hi),hp]
   refine⟨h1,h2,ych ?_ (by rw[hact];exact hK2)⟩;rw[St.pV]at h0|-
   by_cases hE:e∈ids
   .simp[hE]
   .rw[if_neg hE]at h0|-
    have:s.yRU e=.none:=by
     cases hq:s.yRU e with
     |none=>rfl
     |_=>exact absurd h0 ((Obj.lY _ _).2 (by rw[hq];simp))
    rw[e3 e rfl this]
    simp_all
 .obtain⟨h1,h3⟩:=h';obtain⟨e,rfl,h0,hK⟩:=aZ h3;rw[yln]at hK;refine⟨_,_,_,hK,by simp_all,λp hp'=>?_,λs2 e1 e2 e3 K2 hK2=>?_⟩
  .simp[zak]at hp';subst hp';simp
  .have em:xs.map _=xs.map _:=zbg e1;simp[kF,yru];rw[em,hr];exact⟨h1,ych (e3 e rfl h0) (by rw[yln];exact hK2)⟩
def yEQ{op:IOp}(ho:op.yjK=true){d:Option Nat}(h:kF P d op s K):∃Kl U u,K (s.act Kl U d u)/\ySB P op d s (wOf op s++d.toList) (kOf op s++d.toList) Kl U u:=by
 cases op<;>first|cases ho|skip
 .exact yHC h
 .exact yGO h
 .exact yFJ h
 .exact yFZ h
 .exact yIN h
structure ySV(P:Program)(op:IOp)(d:Option Nat)(s:St)(W:List Nat)(Kl:List Nat)(U:List (Nat×Obj))(v:AV):Prop where
 kl:∀j,j∈Kl->2*j+1∈W
 up:∀p,p∈U->2*p.1∈W
 again:∀s2:St,(∀x,x∈op.xs->s2.ev x=s.ev x)->(∀x,x∈op.xs->∀j,j∈(s.ev x).ids->s2.yRU j=s.yRU j)->(∀e,d=some e->s.yRU e=.none->s2.yRU e=.none)->∀K2:St->Prop,K2 (s2.act Kl U d v)->kF P d op s2 K2
def yGc{op:IOp}(ho:op.yjK=true){d:Option Nat}(h:kF P d op s K):∃Kl U u,K (s.act Kl U d u)/\ySV P op d s (yHj op d s) Kl U u:=by
 obtain⟨Kl,U,u,h1,h2⟩:=yEQ ho h;exact⟨_,U,u,h1,λj hj=>zaQ _ (yu5.2 (h2.kl j hj)),λp hp=>zbi _ (yzo.2 (h2.up p hp)),h2.again⟩
def kOf_w{op:IOp}(ho:op.yjK=true){s:St}:∀j,j∈kOf op s->j∈wOf op s:=by
 intro j hj;cases op<;>first|cases ho|skip
 .simp only[wOf,zaj];exact .inr hj
 .simp only[wOf,zaj];exact .inr hj
 .exact hj
 .simp only[kOf,yCt]at hj;split at hj
  .exact hj
  .cases hj
 .cases hj
theorem yIR{op:IOp}(ho:op.yjK=true){d:Option Nat}{s:St}{j:Nat}(h:2*j∈yHj op d s\/2*j+1∈yHj op d s):j∈wOf op s\/d=some j:=by
 have tl:j∈d.toList->d=some j:=by intro h;cases d<;>simp at h;rw[h]
 rcases h with h|h
 .rcases zaj.1 h with h|h
  .rcases zaj.1 (yzo.1 h)with h|h
   .grind
   .grind
  .exact(yIJ h).elim
 .rcases zaj.1 h with h|h
  .exact(yLs h).elim
  .rcases zaj.1 (yu5.1 h)with h|h
   .exact .inl (kOf_w ho j h)
   .simp_all
theorem yIg{op:IOp}(ho:op.yjK=true){s:St}:∀j,j∈wOf op s->∃x,x∈op.xs/\j∈(s.ev x).ids:=by
 intro j hj;cases op<;>first|cases ho|skip
 .rename_i x v;simp only[wOf,zaj]at hj;rcases hj with hj|hj
  .exact⟨x,by simp[IOp.xs],hj⟩
  .split at hj
   .exact⟨v,by simp[IOp.xs],hj⟩
   .cases hj
 .rename_i n x v;simp only[wOf,zaj]at hj;rcases hj with hj|hj
  .exact⟨x,by simp[IOp.xs],hj⟩
  .split at hj
   .exact⟨v,by simp[IOp.xs],hj⟩
   .cases hj
 .obtain⟨a,ha,hj⟩:=zaI.1 hj;obtain⟨x,hx,rfl⟩:=zaP.1 ha;exact⟨x,hx,hj⟩
 .rename_i k b x v;simp[wOf,zaj]at hj;rcases hj with hj|hj
  .exact⟨x,by simp[IOp.xs],hj⟩
  .split at hj
   .cases hj
   .exact⟨v,by simp[IOp.xs],hj⟩
 .rename_i k x v;exact⟨x,by simp[IOp.xs],hj⟩
end
end Go.Proofs.YtdadkiofenhnbaaGreat
namespace Go.Proofs.YtdadkiofenhnbaaGreat
open Go.RowKit
def TrQ(P:Program)(i:Ins)(lab:Lab)(s s':St):Prop:=
 ∃v,s'=s.put i.d v/\(∀k:AV->Prop,k v->ygj P i s.ev s.yRU k)/\lab=ybH i s v
def TrM(P:Program)(i:Ins)(lab:Lab)(s s':St):Prop:=
 ∃e o v,i.d=some e/\s.yRU e=.none/\s'=⟨upd e v s.env,upd e o s.yRU⟩/\(o.bare/\o≠.none)/\(∀j,j∈v.ids->j=e)/\(∀x,x∈i.op.xs->(s.ev x).ids=[]/\(s.ev x).cl=true)/\lab=yvS i/\
  ∀s2:St,(∀x,x∈i.op.xs->s2.ev x=s.ev x)->s2.yRU e=.none->∀K2:St->Prop,K2 ⟨upd e v s2.env,upd e o s2.yRU⟩->ydf P i.d i.op s2 K2
def mkE(P:Program)(i:Ins)(s:St)(kN:St->Prop):Prop:=
 match i.g,i.d,i.op with
 |none,some d,.call f xs=>∃args res,nI P f args res/\iO s (xs.map s.ev) args/\(res.closed\/(xs.map s.ev).all AV.nU=true)/\fD s (res.fK d)/\kN (s.take d res)
 |_,_,_=>False
structure ySt(P:Program)(i:Ins)(s:St)(d:Nat)(res:AV)(f:Nat)(xs:List X)(args:List AV):Prop where
 gd:i.g=none
 dst:i.d=some d
 opr:i.op=.call f xs
 own:nI P f args res
 outs:iO s (xs.map s.ev) args
 cl:res.closed\/(xs.map s.ev).all AV.nU=true
 fresh:fD s (res.fK d)
def TrN(P:Program)(i:Ins)(s s':St):Prop:=∃d res f xs args,ySt P i s d res f xs args/\s'=s.take d res
def yIO{P:Program}{i:Ins}{s:St}{kN:St->Prop}(h:mkE P i s kN):∃d res f xs args,ySt P i s d res f xs args/\kN (s.take d res):=by
 unfold mkE at h;split at h
 .rename_i d f xs e1 e2 e3;obtain⟨args,res,h1,h2,h3,h4,h5⟩:=h;exact⟨d,_,f,_,_,⟨e1,e2,e3,h1,h2,h3,h4⟩,h5⟩
 grind
def ySt.qF{P:Program}{i:Ins}{s:St}{d:Nat}{res:AV}{f:Nat}{xs:List X}{args:List AV}(h:ySt P i s d res f xs args):i.op.qF=true:=by rw[h.opr]
def ySt.step{P:Program}{i:Ins}{s:St}{d:Nat}{res:AV}{f:Nat}{xs:List X}{args:List AV}(h:ySt P i s d res f xs args){K:St->Prop}(hK:K (s.take d res)):kF P i.d i.op s K:=by
 rw[h.dst,h.opr];rcases h.cl with e|e
 .exact sD h.own h.outs e h.fresh hK
 .exact qU h.own h.outs e h.fresh hK
def TrE(P:Program)(i:Ins)(lab:Lab)(s s':St):Prop:=
 ∃Kl U v,s'=s.act Kl U i.d v/\ySV P i.op i.d s lab.1 Kl U v/\(∀j,(2*j∈lab.1\/2*j+1∈lab.1)->(∃x,x∈i.op.xs/\j∈(s.ev x).ids)\/i.d=some j)/\lab.2=true
def Clear(s:St)(d:Nat):Prop:=(∀t,d∉(s.env t).ids)/\∀i cells,s.yRU i=.box cells->∀x,x∈cells->d∉x.tJ
def Sound(s:St):Prop:=∀d,s.yRU d=.none->Clear s d
theorem yow{w:World}{G:Nat->Prop}{O:Nat->Obj}{blk:Nat->Option Nat}{v:Value}{x:AV}(h:RV1 w G O blk v x){i:Nat}(hi:i∈x.nP):O i≠.none:=by
 cases x<;>simp[AV.nP,AV.tJ,zak,zaH]at hi<;>try(grind)
 .subst hi;obtain⟨b,cells,ho,_⟩:=h;grind
 .subst hi;obtain⟨b,m,ho,_⟩:=h;intro e;rw[e]at ho;cases ho
 .subst hi;obtain⟨m,ho,_⟩:=h;intro e;rw[e]at ho;cases ho
 .exact h.elim
 .subst hi;obtain⟨_,_,_,ho,_⟩:=h;grind
 .subst hi;obtain⟨_,_,_,ho,_⟩:=h;grind
 .subst hi;obtain⟨m,A,c,ho,_⟩:=h;intro e;rw[e]at ho;cases ho
 .exact h.elim
 .subst hi;obtain⟨_,_,ho,_⟩:=h;grind
theorem yAJ{w:World}{G:Nat->Prop}{O:Nat->Obj}{blk:Nat->Option Nat}{v:Value}{x:AV}(h:RV2 w G O blk v x){i:Nat}(hi:i∈x.qV):O i≠.none:=by
 cases x
 case agg l=>
  obtain⟨arr,_,_,hl⟩:=h;obtain⟨y,hy,hi⟩:=zaI.1 hi
  grind [List.getElem?_of_mem,yow]
 case fn f l=>
  obtain⟨arr,_,_,hl⟩:=h;obtain⟨y,hy,hi⟩:=zaI.1 hi
  grind [List.getElem?_of_mem,yow]
 all_goals(simp[RV2]at h;exact yow h hi)
def yH6{w:World}{G:Nat->Prop}{O:Nat->Obj}{blk:Nat->Option Nat}{v:Value}{x:AV}(h:RV w G O blk v x){i:Nat}(hi:i∈x.ids):O i≠.none:=by
 cases x
 case tup l=>
  obtain⟨arr,_,_,hl⟩:=h;obtain⟨y,hy,hi⟩:=zaI.1 hi
  grind [List.getElem?_of_mem,yAJ]
 all_goals(simp[RV]at h;exact yAJ h hi)
def Repr.sound{g:ySm}{s:St}{a:Act}{w:World}{blk:Lay}(h:Repr g s a w blk):Sound s:=by
 intro d hd;refine⟨λt hi=>yH6 (h.env t) hi hd,λi cells ho x hx hi=>?_⟩;have:=h.yRU i;rw[ho]at this;obtain⟨q,arr,e,_,_,_,hc⟩:=this;obtain⟨j,hj⟩:=zat hx;obtain⟨u,_,hr⟩:=hc j x hj;exact yow hr (rU hi) hd
def ev_of{s s2:St}{x:X}(h:∀t,t∈x.tm->s2.env t=s.env t):s2.ev x=s.ev x:=by
 cases x with
 |t n=>exact h n (by simp[X.tm])
 |k a=>rfl
def lU{i:Ins}{s s2:St}(h:∀t,t∈i.rdx->s2.env t=s.env t):∀x,x∈i.op.xs->s2.ev x=s.ev x:=
 λx hx=>ev_of λt ht=>h t (zaQ _ (by grind))
theorem yIs{op:IOp}{s s2:St}(h:∀x,x∈op.xs->s2.ev x=s.ev x):yvd op s2=yvd op s:=by
 cases op<;>grind [yvd,IOp.xs]
theorem yfi{i:Ins}{s s2:St}{v:AV}(h:∀x,x∈i.op.xs->s2.ev x=s.ev x):ybH i s2 v=ybH i s v:=by
 grind [List.map_congr_left,yIs,ybH]
def yzZ{i:Ins}{s:St}{v:AV}:(∀j,j∈v.ids->2*j+1∈(ybH i s v).1)/\(∀x,x∈i.op.xs->∀j,j∈(s.ev x).ids->2*j+1∈(ybH i s v).1)/\(yvd i.op s=false->∀x,x∈i.op.xs->∀j,j∈(s.ev x).ids->2*j∈(ybH i s v).1):=by
 refine⟨λj hj=>zaQ _ (yu5.2 (by simp_all)),λx hx j hj=>zaQ _ (yu5.2 (by grind)),λhm x hx j hj=>zbi _ ?_⟩
 grind [yzo]
def yCW{P:Program}{op:IOp}{s:St}(hm:yvd op s=true){ob ob':Nat->Obj}{k:AV->Prop}(h:dJ P op s.ev ob k):dJ P op s.ev ob' k:=by
 cases op<;>first|exact h|cases hm|skip
 rename_i x;simp[yvd]at hm;simp[dJ]at h|-;revert hm h;generalize s.ev x=a;intro hm h;cases a with
 |c y=>cases y<;>exact h
 |sub _ _ _ _ _ _=>cases hm
 |_=>exact h
def yIt{i:Ins}{s:St}{v:AV}(h:(ybH i s v).2=true):v.cl=true/\∀x,x∈i.op.xs->(s.ev x).cl=true:=by
 have:=zaf.1 h
 grind
theorem yHK{x:AV}{want:Bool}{A B:Prop}(h:fZ x want A B):(∃b,x=.c (.b b))\/x=.und:=by
 unfold fZ at h
 grind
def yu8{P:Program}{i:Ins}{ev:X->AV}{ob:Nat->Obj}{k:AV->Prop}(h:ygj P i ev ob k):∀t b,i.g=some (t,b)->(∃b,ev (.t t)=.c (.b b))\/ev (.t t)=.und:=by
 grind [yHK,ygj]
def yaR{P:Program}{i:Ins}{ev ev':X->AV}{ob ob':Nat->Obj}{v:AV}(hg:∀t b,i.g=some (t,b)->ev' (.t t)=ev (.t t))
 (hv:(∀k:AV->Prop,k v->dJ P i.op ev ob k)->∀k:AV->Prop,k v->dJ P i.op ev' ob' k) (h:∀k:AV->Prop,k v->ygj P i ev ob k):∀k:AV->Prop,k v->ygj P i ev' ob' k:=by
 intro k hk;unfold ygj at h|-;cases hg':i.g with
 |none=>simp_all
 |some p=>
  obtain⟨t,b⟩:=p;rw[hg']at h;simp at h|-;rw[hg t b hg'];have h1:=h k hk;unfold fZ at h h1|-;split at h1<;>simp_all
structure Apart(x y:Ins):Prop where
 xy:∀d,x.d=some d->d∉y.rdx
 ne:∀d,x.d=some d->y.d≠some d
 yx:∀d,y.d=some d->d∉x.rdx
theorem yAq{x y:Ins}(h:ytN x y=true):Apart x y:=by
 unfold ytN at h;rw[zad]at h;refine⟨λd e=>?_,λd e=>?_,λd e=>?_⟩<;>grind
def Apart.yva{x y:Ins}(h:Apart x y){s:St}{v:AV}:∀t,t∈y.rdx->(s.put x.d v).env t=s.env t:=λt ht=>yC λe=>h.xy t e ht
def Apart.yug{x y:Ins}(h:Apart x y){s:St}{v:AV}:∀t,t∈x.rdx->(s.put y.d v).env t=s.env t:=λt ht=>yC λe=>h.yx t e ht
def ycp{i:Ins}{t:Nat}{b:Bool}(h:i.g=some (t,b)):t∈i.rdx:=by grind [Ins.rdx]
def put_comm{s:St}{d e:Option Nat}{u v:AV}(h:∀t,d=some t->e≠some t):(s.put d u).put e v=(s.put e v).put d u:=by
 refine St.ext' (λt=>?_) λi=>by grind [mJ]
 by_cases h1:e=some t
 .grind [put_eq,yC]
 .rw[yC h1]
  by_cases h2:d=some t<;>grind [put_eq,yC]
section
variable {P:Program} {x y:Ins} {s s1 s2:St} {lx ly:Lab}
theorem yL2(hy:y.op.reads.isSome=true)(hx:x.op.reads.isSome=true)(ha:Apart x y)(h1:TrQ P x lx s s1)(h2:TrQ P y ly s1 s2):∃s1',TrQ P y ly s s1'/\TrQ P x lx s1' s2:=by
 obtain⟨u,rfl,hu,rfl⟩:=h1;obtain⟨v,rfl,hv,rfl⟩:=h2;have ey:=lU (i:=y) (s:=s.put _ u) (s2:=s) λt ht=>(ha.yva t ht).symm;have ex:=lU (i:=x) (s:=s) (s2:=s.put _ v) λt ht=>ha.yug t ht;refine⟨_,⟨v,rfl,?_,?_⟩,⟨u,put_comm ha.ne,?_,?_⟩⟩
 .rw[mJ]at hv;exact yaR (λt b hg=>(ha.yva t (ycp hg)).symm) (λH k hk=>yeO hy ey (H k hk)) hv
 .grind [yfi]
 .rw[mJ];exact yaR (ev:=s.ev) (λt b hg=>ha.yug t (ycp hg)) (λH k hk=>yeO hx ex (H k hk)) hu
 grind [yfi]
def yhv{s:St}{d:Nat}(hc:Clear s d){x:X}(hk:x.kok=true):d∉(s.ev x).ids:=by
 cases x with
 |t n=>exact hc.1 n
 |k a=>
  have:=by simpa[X.kok]using hk
  show d∉a.ids
  rw[this];simp
theorem new_ne{s:St}{e:Nat}{v:AV}{o:Obj}{t:Nat}(h:t≠e):(⟨upd e v s.env,upd e o s.yRU⟩:St).env t=s.env t:=by
 grind [upd]
theorem yc2{s:St}{e:Nat}{v:AV}{o:Obj}:(⟨upd e v s.env,upd e o s.yRU⟩:St).env e=v:=by
 grind [upd]
theorem oK{s:St}{e:Nat}{v:AV}{o:Obj}{i:Nat}(h:i≠e):(⟨upd e v s.env,upd e o s.yRU⟩:St).yRU i=s.yRU i:=by
 grind [upd]
theorem yM{s:St}{e:Nat}{v:AV}{o:Obj}:(⟨upd e v s.env,upd e o s.yRU⟩:St).yRU e=o:=by
 grind [upd]
theorem yDl{s:St}{e:Nat}{u v:AV}{o:Obj}{d:Option Nat}(h:d≠some e):(⟨upd e v (s.put d u).env,upd e o (s.put d u).yRU⟩:St)=(⟨upd e v s.env,upd e o s.yRU⟩:St).put d u:=by
 refine St.ext' (λt=>?_) λi=>by simp_all [mJ]
 by_cases h1:t=e
 .subst h1;rw[yc2,yC h,yc2]
 .rw[new_ne h1]
  by_cases h2:d=some t
  .grind [put_eq]
  .rw[yC h2,yC h2,new_ne h1]
theorem yKi(hs:Sound s)(hx:x.op.reads.isSome=true)(hk:x.op.xs.all X.kok=true)(ha:Apart x y)(h1:TrQ P x lx s s1)(h2:TrM P y ly s1 s2):∃s1',TrM P y ly s s1'/\TrQ P x lx s1' s2:=by
 obtain⟨u,rfl,hu,rfl⟩:=h1;obtain⟨e,o,v,hd,h0,rfl,hb,hv,hxs,rfl,ag⟩:=h2;rw[mJ]at h0;have ey:=lU (i:=y) (s:=s.put _ u) (s2:=s) λt ht=>(ha.yva t ht).symm;have ev:∀t,t∈x.rdx->(⟨upd e v _,upd e o _⟩:St).env t=s.env t:=λt ht=>new_ne λh=>ha.yx e hd (h▸ht);have ex:=lU (i:=x) ev;have hc:=hs e h0;have hne:=λh=>ha.ne e h hd;refine⟨_,⟨e,o,v,hd,h0,rfl,hb,hv,by grind,rfl,by grind⟩,⟨u,yDl hne,?_,(yfi ex).symm⟩⟩;refine yaR (ev:=s.ev) (ob:=s.yRU) (λt b hg=>ev t (ycp hg)) (λH k hk'=>yeO hx ex ?_) hu;exact yzU hx (e:=e) (λi hi=>oK hi) hc.2 (λz hz=>yhv hc (by simp_all)) H k hk'
theorem yKq(hs:Sound s)(hy:y.op.reads.isSome=true)(hk:y.op.xs.all X.kok=true)(ha:Apart x y)(h1:TrM P x lx s s1)(h2:TrQ P y ly s1 s2):∃s1',TrQ P y ly s s1'/\TrM P x lx s1' s2:=by
 obtain⟨e,o,v,hd,h0,rfl,hb,hv,hxs,rfl,ag⟩:=h1;obtain⟨u,rfl,hu,rfl⟩:=h2;have ev:∀t,t∈y.rdx->s.env t=(⟨upd e v _,upd e o _⟩:St).env t:=λt ht=>(new_ne λ(h:t=e)=>ha.xy e hd (h▸ht)).symm;have ey:=lU (i:=y) ev;have ex:=lU (i:=x) (s:=s) (s2:=s.put _ u) λt ht=>ha.yug t ht;have hc:=hs e h0;have hne:=ha.ne e hd;refine⟨_,⟨u,rfl,?_,(yfi ey).symm⟩,⟨e,o,v,hd,by rw[mJ];omega,(yDl hne).symm,hb,hv,by grind,rfl,by grind⟩⟩;refine yaR (ev:=(⟨_,_⟩:St).ev) (λt b hg=>ev t (ycp hg)) (λH k hk'=>yeO hy ey ?_) hu;refine yzU hy (e:=e) (λi hi=>(oK hi).symm) (λi cells hi z hz=>?_) (λz hz=>by rw[<-ey z hz];exact yhv hc (by grind)) H k hk'
 by_cases h:i=e
 .subst h;have hi':=by rw[yM]at hi;exact hi
  subst hi';intro hc';have:=hb.1 z hz;have h5:=rU hc';rw[this]at h5;cases h5
 .rw[oK h]at hi;exact hc.2 i _ hi z hz
theorem yMf(ha:Apart x y)(h1:TrM P x lx s s1)(h2:TrM P y ly s1 s2):∃s1',TrM P y ly s s1'/\TrM P x lx s1' s2:=by
 obtain⟨e,o,v,hd,h0,rfl,hb,hv,hxs,rfl,ag⟩:=h1;obtain⟨e',o',v',hd',h0',rfl,hb',hv',hxs',rfl,ag'⟩:=h2;have hne:e≠e':=λh=>ha.ne e hd (h▸hd');rw[oK (Ne.symm hne)]at h0';have ey:=lU (i:=y) (s:=⟨upd e v _,upd e o _⟩) (s2:=s) λt ht=>(new_ne λ(h:t=e)=>ha.xy e hd (h▸ht)).symm;have ex:=lU (i:=x) (s:=s) (s2:=⟨upd _ v' _,upd e' o' _⟩) λt ht=>new_ne λh=>ha.yx _ hd' (h▸ht)
 refine⟨_,⟨_,_,_,hd',h0',rfl,hb',hv',(by grind),rfl,by grind⟩,
  ⟨e,o,v,hd,by rw[oK hne];omega,?_,hb,hv,by grind,rfl,by grind⟩⟩
 refine St.ext' (λt=>?_) λi=>?_
 .by_cases h1:t=e
  .subst h1;rw[new_ne hne,yc2,yc2]
  .by_cases h2:t=e'
   .subst h2;rw[yc2,new_ne h1,yc2]
   .rw[new_ne h2,new_ne h1,new_ne h1,new_ne h2]
 .by_cases h1:i=e
  .subst h1;rw[oK hne,yM,yM]
  .by_cases h2:i=e'
   .subst h2;rw[yM,oK h1,yM]
   .rw[oK h2,oK h1,oK h1,oK h2]
theorem yDy{s:St}{d e:Option Nat}{u v:AV}{Kl:List Nat}{U:List (Nat×Obj)}(h:∀t,d=some t->e≠some t)(hu:∀j,j∈Kl->j∉u.ids):(s.put d u).act Kl U e v=(s.act Kl U e v).put d u:=by
 refine St.ext' (λt=>?_) λi=>by simp_all [ycn,mJ]
 by_cases h1:e=some t
 .grind [yxX,yC]
 .rw[yeg h1]
  by_cases h2:d=some t
  .grind [put_eq,yaD]
  grind [yC,yeg]
theorem yw4{Kl:List Nat}{U:List (Nat×Obj)}{W:List Nat}{o:Obj}{i:Nat}(h1:∀j,j∈Kl->2*j+1∈W)(h2:∀p,p∈U->2*p.1∈W)(hk:2*i+1∉W)(h:2*i∉W):ym2 Kl U o i=o.kills Kl:=
 ynB (by grind) (by grind)
theorem yKI(hx:x.op.reads.isSome=true)(hcall:x.op.qF=false)(hk:x.op.xs.all X.kok=true)(ha:Apart x y)(hdis:∀j,j∈lx.1->j∉ly.1)(h1:TrQ P x lx s s1)(h2:TrE P y ly s1 s2):∃s1',TrE P y ly s s1'/\TrQ P x lx s1' s2:=by
 obtain⟨u,rfl,hu,rfl⟩:=h1;obtain⟨Kl,U,v,rfl,ok,hl,hcl⟩:=h2;have ey:=lU (i:=y) (s:=s.put _ u) (s2:=s) λt ht=>(ha.yva t ht).symm;obtain⟨l1,l2,l3⟩:=yzZ (i:=x) (s:=s) (v:=u);have hfree:∀{a:AV},(∀j,j∈a.ids->2*j+1∈(ybH x s u).1)->a.kills _=a:=λh=>yaD λj hj hi=>hdis _ (h j hi) (ok.kl j hj)
 have ex:∀z,z∈x.op.xs->(s.act Kl U y.d v).ev z=s.ev z:=by
  intro z hz;cases z with
  |t n=>
   show(s.act _ U _ v).env n=s.env n
   rw[yeg λe=>ha.yx n e (zaQ _ (zaI.2 ⟨_,hz,by simp[X.tm]⟩))];exact hfree λj hj=>l2 _ hz j hj
  |k a=>rfl
 refine⟨_,⟨_,U,v,rfl,⟨ok.kl,ok.up,λs3 h3 h4 h5 K hK=>ok.again _ (by simp_all) (λz hz j hj=>?_) (λe he h6=>h5 e he (by grind [mJ])) K hK⟩,λj hj=>?_,hcl⟩,⟨u,?_,?_,(yfi ex).symm⟩⟩
 .grind [mJ]
 .grind
 .exact yDy ha.ne λj hj hi=>hdis _ (l1 j hi) (ok.kl j hj)
 .refine yaR (ev:=s.ev) (ob:=s.yRU) (λt b hg=>?_) (λH k hk'=>yeO hx ex ?_) hu
  .show(s.act _ U _ v).env t=s.env t
   rw[yeg λe=>ha.yx t e (ycp hg)];rcases yu8 (hu (λ_=>True) trivial) t b hg with⟨b',hb⟩|hb
   .have:s.env t=.c _:=hb;rw[this];exact yaD λj _ hj=>by cases hj
   .have:s.env t=.und:=hb;rw[this];exact yaD λj _ hj=>by cases hj
  .cases hm:yvd _ s with
   |true=>exact yCW hm (H k hk')
   |false=>
    refine yxW hx hcall (v:=u) (λz hz i hi=>?_) H k hk';rw[ycn,yw4 ok.kl ok.up (by grind) (by grind)];exact ymL.kills λj hj hi=>hdis _ (l1 j hi) (ok.kl j hj)
theorem yJ5(hy:y.op.reads.isSome=true)(hcall:y.op.qF=false)(ha:Apart x y)(hdis:∀j,j∈lx.1->j∉ly.1)(hcly:ly.2=true)(h1:TrE P x lx s s1)(h2:TrQ P y ly s1 s2):∃s1',TrQ P y ly s s1'/\TrE P x lx s1' s2:=by
 obtain⟨Kl,U,v,rfl,ok,hl,hcl⟩:=h1;obtain⟨u,rfl,hu,rfl⟩:=h2;obtain⟨l1,l2,l3⟩:=yzZ (i:=y) (s:=s.act _ U _ v) (v:=u);obtain⟨c1,c2⟩:=yIt hcly
 have ey:∀z,z∈y.op.xs->s.ev z=(s.act Kl U x.d v).ev z:=by
  intro z hz;cases z with
  |t n=>
   show s.env n=(s.act _ U _ v).env n
   have hn:=λe=>ha.xy n e (zaQ _ (zaI.2 ⟨_,hz,by simp[X.tm]⟩));have hc:((s.act _ U _ v).env n).cl=true:=c2 _ hz
   grind [yeg,yeW]
  |k a=>rfl
 have ex:=lU (i:=x) (s:=s) (s2:=s.put _ u) λt ht=>ha.yug t ht;refine⟨_,⟨u,rfl,?_,(yfi ey).symm⟩,⟨_,U,v,?_,⟨ok.kl,ok.up,λs3 h3 h4 h5 K hK=>ok.again _ (by grind) (λz hz j hj=>?_) (λe he h6=>h5 e he (by grind [mJ])) K hK⟩,λj hj=>?_,hcl⟩⟩
 .refine yaR (λt b hg=>?_) (λH k hk'=>yeO hy ey ?_) hu
  .show s.env t=(s.act _ U _ v).env t
   have hn:=λe=>ha.xy t e (ycp hg)
   have hc:((s.act Kl U x.d v).env t).cl=true:=by
    rcases yu8 (hu (λ_=>True) trivial) t b hg with⟨b',hb⟩|hb
    .have:(s.act _ U _ v).env t=.c _:=hb;rw[this];rfl
    .have:(s.act _ U _ v).env t=.und:=hb;rw[this];rfl
   grind [yeg,yeW]
  .cases hm:yvd _ _ with
   |true=>exact yCW hm (H k hk')
   |false=>
    refine yxW hy hcall (v:=u) (λz hz i hi=>?_) H k hk';rw[ycn,yw4 ok.kl ok.up (by grind) λh=>hdis _ h (l3 hm z hz i hi)];exact ymL.yLM c1
 .exact(yDy (λt h h'=>ha.ne t h' h) λj hj hi=>hdis _ (ok.kl j hj) (l1 j hi)).symm
 .grind [mJ]
 grind
theorem ynG{s:St}{e:Nat}{o:Obj}{u v:AV}{d:Option Nat}{Kl:List Nat}{U:List (Nat×Obj)}(hne:d≠some e)(hu:∀j,j∈u.ids->j=e)(hb:o.bare)(h1:e∉Kl)(h2:∀p,p∈U->p.1≠e):
 (⟨upd e u s.env,upd e o s.yRU⟩:St).act Kl U d v=⟨upd e u (s.act Kl U d v).env,upd e o (s.act Kl U d v).yRU⟩:=by
 refine St.ext' (λt=>?_) λi=>?_
 .by_cases h:t=e
  .subst h;rw[yeg hne,yc2,yc2,yaD (by grind)]
  .rw[new_ne h]
   by_cases h3:d=some t
   .grind [yxX]
   .rw[yeg h3,yeg h3,new_ne h]
 .rw[ycn]
  by_cases h:i=e
  .subst h;rw[yM,yM,ynB h1 h2,yA0 hb]
  .rw[oK h,oK h,ycn]
theorem yLk(hs:Sound s)(hk:y.op.xs.all X.kok=true)(ha:Apart x y)(h1:TrM P x lx s s1)(h2:TrE P y ly s1 s2):∃s1',TrE P y ly s s1'/\TrM P x lx s1' s2:=by
 obtain⟨e,o,u,hd,h0,rfl,hb,hu,hxs,rfl,ag⟩:=h1;obtain⟨Kl,U,v,rfl,ok,hl,hcl⟩:=h2;have ey:=lU (i:=y) (s:=⟨upd e u _,upd e o _⟩) (s2:=s) λt ht=>(new_ne λ(h:t=e)=>ha.xy e hd (h▸ht)).symm;have hc:=hs e h0;have hne:=ha.ne e hd;have hfr:=λz hz=>yhv hc (zaf.1 hk z hz)
 have hel:¬(2*e∈ly.1\/2*e+1∈ly.1):=by
  grind
 have hKl:=λh=>hel (.inr (ok.kl e h));have hU:∀p,p∈U->p.1≠e:=λp hp h=>hel (.inl (h▸ok.up p hp))
 have ex:∀z,z∈x.op.xs->(s.act Kl U y.d v).ev z=s.ev z:=by
  intro z hz;cases z with
  |t n=>
   show(s.act _ U _ v).env n=s.env n
   rw[yeg λe=>ha.yx n e (zaQ _ (zaI.2 ⟨_,hz,by simp[X.tm]⟩))];have:=(hxs _ hz).1;exact yaD λj _ hj=>by rw[show(s.env n).ids=[]from this]at hj;grind
  |k a=>rfl
 refine⟨_,⟨_,U,v,rfl,⟨ok.kl,ok.up,λs3 h3 h4 h5 K hK=>ok.again _ (by grind) (λz hz j hj=>?_) (λf hf h6=>?_) K hK⟩,λj hj=>?_,hcl⟩,
  ⟨e,o,u,hd,?_,ynG hne hu hb.1 hKl hU,hb,hu,by grind,rfl,by grind⟩⟩
 .rw[<-ey z hz]at hj;rw[oK λ(h:j=e)=>hfr z hz (h▸hj)]
  grind
 .have hfe:f≠e:=λh=>hne (h▸hf);rw[oK hfe]at h6
  grind
 .grind
 grind [ycn,ynB,Obj.yaz]
theorem yKb(hs:Sound s)(hk:x.op.xs.all X.kok=true)(ha:Apart x y)(hdis:∀j,j∈lx.1->j∉ly.1)(h1:TrE P x lx s s1)(h2:TrM P y ly s1 s2):∃s1',TrM P y ly s s1'/\TrE P x lx s1' s2:=by
 obtain⟨Kl,U,v,rfl,ok,hl,hcl⟩:=h1;obtain⟨e,o,u,hd,h0,rfl,hb,hu,hxs,rfl,ag⟩:=h2;have hel:2*e∉lx.1:=λh=>hdis _ h (zbi _ (yzo.2 (by grind)));have hel2:2*e+1∉lx.1:=λh=>hdis _ h (zaQ _ (yu5.2 (by grind)));have hKl:=λh=>hel2 (ok.kl e h);have hU:∀p,p∈U->p.1≠e:=λp hp h=>hel (h▸ok.up p hp);rw[ycn,ynB hKl hU]at h0
 have h0':s.yRU e=.none:=by
  grind [Obj.lY]
 have hc:=hs e h0';have hne:=λh=>ha.ne e h hd;have hfr:=λz hz=>yhv hc (zaf.1 hk z hz)
 have ey:∀z,z∈y.op.xs->s.ev z=(s.act Kl U x.d v).ev z:=by
  intro z hz;cases z with
  |t n=>
   show s.env n=(s.act _ U _ v).env n
   have hn:=λe=>ha.xy n e (zaQ _ (zaI.2 ⟨_,hz,by simp[X.tm]⟩));have hc:((s.act _ U _ v).env n).cl=true:=(hxs _ hz).2
   grind [yeg,yeW]
  |k a=>rfl
 have ex:=lU (i:=x) (s:=s) (s2:=⟨upd e u _,upd e o _⟩) λt ht=>new_ne λh=>ha.yx e hd (h▸ht)
 refine⟨_,⟨e,o,u,hd,h0',rfl,hb,hu,by simp_all,rfl,by grind⟩,
  ⟨_,U,v,(ynG hne hu hb.1 hKl hU).symm,⟨ok.kl,ok.up,λs3 h3 h4 h5 K hK=>ok.again _ (by grind) (λz hz j hj=>?_) (λf hf h6=>?_) K hK⟩,λj hj=>?_,hcl⟩⟩
 .have:=h4 z hz j (by grind);rw[oK λ(h:j=e)=>hfr z hz (h▸hj)]at this;omega
 .have hfe:f≠e:=λh=>hne (h▸hf);exact h5 f hf (by rw[oK hfe];omega)
 grind
end
theorem yDa{d:Nat}{c:C}:∀p,p∈c.fK d->p.2.bare/\p.2≠.none:=by
 intro p hp;cases c<;>simp only[C.fK,zaH,zak]at hp<;>first|grind|skip
 .subst hp;exact⟨trivial,by simp⟩
 .subst hp;exact⟨trivial,by simp⟩
 .split at hp
  .rw[zak]at hp;subst hp;refine⟨λx hx=>?_,by simp⟩;obtain⟨c,_,rfl⟩:=zaP.1 hx;rfl
  grind
theorem yzH{d:Nat}:∀{l:List C} {j:Nat} (p:Nat×Obj),p∈jP d j l->p.2.bare/\p.2≠.none
 |[],_,p,hp=>by cases hp
 |c::l,j,p,hp=>by
  rcases zaj.1 hp with h|h
  .exact yDa p h
  .exact yzH p h
theorem yAo{d:Nat}{x:AV}:∀p,p∈x.yd1 d->p.2.bare/\p.2≠.none:=by
 intro p hp;cases x<;>simp[AV.yd1,zaH]at hp<;>first|simp_all|skip
 .grind [yDa]
 .grind [yzH]
def yA6{d:Nat}:∀{l:List AV} {j:Nat} (p:Nat×Obj),p∈yir d j l->p.2.bare/\p.2≠.none
 |[],_,p,hp=>by cases hp
 |c::l,j,p,hp=>by
  rcases zaj.1 hp with h|h
  .exact yAo p h
  .exact yA6 p h
theorem yx3{d:Nat}{x:AV}:∀p,p∈x.fK d->p.2.bare/\p.2≠.none:=by
 intro p hp;cases x
 case tup l=>exact yA6 p hp
 all_goals grind [yAo,AV.fK]
def yxu{l:List (Nat×Obj)}{i:Nat}(h:i∈l.map (·.1)):∃p,p∈l/\p.1=i:=by
 grind
theorem lQ{s:St}{d t:Nat}{res:AV}(h:t≠d):(s.take d res).env t=s.env t:=by
 show upd d _ _ t=_;grind [jG]
theorem yao{s:St}{d:Nat}{res:AV}:(s.take d res).env d=res.unp d:=by
 show upd d _ _ d=_;grind [jG]
theorem nR{s:St}{d i:Nat}{res:AV}(h:i∉(res.fK d).map (·.1)):(s.take d res).yRU i=s.yRU i:=kY h
def yhQ{s:St}{d:Nat}{res:AV}(hn:((res.fK d).map (·.1)).Nodup){p:Nat×Obj}(hp:p∈res.fK d):(s.take d res).yRU p.1=p.2:=kW hn p hp
def yhJ{O O':Nat->Obj}{i:Nat}(h:O i=O' i):∀{l:List (Nat×Obj)},nG O l i=nG O' l i
 |[]=>h
 |(k,o)::l=>by
  show upd k o _ i=upd k o _ i
  rw[jG,jG,yhJ h]
def yAM{s:St}{x:Option Nat}{d:Nat}{u res:AV}(h:x≠some d):(s.put x u).take d res=(s.take d res).put x u:=by
 refine St.ext' (λt=>?_) λi=>by
  rw[mJ]
  show nG _ _ i=nG _ _ i
  rw[mJ]
 by_cases h1:t=d
 .grind [yao,yC]
 .rw[lQ h1]
  by_cases h2:x=some t<;>grind [put_eq,yC,lQ]
section
variable {P:Program} {x y:Ins} {s s1 s2:St} {lx ly:Lab} {d d':Nat} {res res':AV} {f f':Nat} {xs xs':List X} {args args':List AV}
def ySt.at(h:ySt P x s d res f xs args){s2:St}(he:∀z,z∈x.op.xs->s2.ev z=s.ev z)(ho:iO s (xs.map s.ev) args->iO s2 (xs.map s.ev) args)(hf:fD s2 (res.fK d)):ySt P x s2 d res f xs args:=by
 have e:xs.map _=xs.map _:=zbg λz hz=>he z (by rw[h.opr];exact hz);exact⟨h.gd,h.dst,h.opr,h.own,by rw[e];exact ho h.outs,by rw[e];exact h.cl,hf⟩
def ySt.yxn(hs:Sound s)(h:ySt P x s d res f xs args)(hk:x.op.xs.all X.kok=true){e:Nat}(h0:s.yRU e=.none):∀a,a∈xs.map s.ev->e∉a.nP:=by
 intro a ha hc;obtain⟨z,hz,rfl⟩:=zaP.1 ha;exact yhv (hs e h0) (zaf.1 hk z (by rw[h.opr];exact hz)) (yar hc)
def ySt.none(h:ySt P x s d res f xs args){i:Nat}(hi:i∈(res.fK d).map (·.1)):s.yRU i=.none:=by
 obtain⟨p,hp,rfl⟩:=yxu hi;exact h.fresh.1 p hp
theorem ySt.cells(hs:Sound s)(h:ySt P x s d res f xs args):∀i cells,(s.take d res).yRU i=.box cells->∀z,z∈cells->∀j,j∈z.tJ->¬j∈(res.fK d).map (·.1):=by
 intro i cells hi z hz j hj hE
 by_cases hc:i∈(res.fK d).map (·.1)
 .obtain⟨p,hp,rfl⟩:=yxu hc;rw[yhQ h.fresh.2 hp]at hi;have:=(yx3 p hp).1;rw[hi]at this;have h2:=rU hj;rw[this z hz]at h2;grind
 .rw[nR hc]at hi;exact(hs j (h.none hE)).2 i cells hi z hz hj
def ySt.yFN(hs:Sound s)(h:ySt P x s d res f xs args):∀i cells,s.yRU i=.box cells->∀z,z∈cells->∀j,j∈z.tJ->¬j∈(res.fK d).map (·.1):=
 λi cells hi z hz j hj hE=>(hs j (h.none hE)).2 i _ hi z hz hj
theorem yLf(hs:Sound s)(hx:x.op.reads.isSome=true)(hk:x.op.xs.all X.kok=true)(ha:Apart x y)(h1:TrQ P x lx s s1)(h2:TrN P y s1 s2):∃s1',TrN P y s s1'/\TrQ P x lx s1' s2:=by
 obtain⟨u,rfl,hu,rfl⟩:=h1;obtain⟨d,res,f,xs,args,hm,rfl⟩:=h2;have ey:=lU (i:=y) (s:=s.put _ u) (s2:=s) λt ht=>(ha.yva t ht).symm;have hm':=hm.at ey (λh=>by rw[<-yam]at h|-;grind [mJ]) ⟨λp hp=>by have:=hm.fresh.1 p hp;show s.yRU _=_;rw[<-mJ (s:=s) (d:=x.d) (v:=u)];exact this,hm.fresh.2⟩;have hne:=λh=>ha.ne d h hm.dst;have ev:∀t,t∈x.rdx->(s.take d res).env t=s.env t:=λt ht=>lQ λh=>ha.yx d hm.dst (h▸ht);have ex:=lU (i:=x) ev;refine⟨_,⟨d,_,f,_,_,hm',rfl⟩,⟨u,yAM hne,?_,(yfi ex).symm⟩⟩;refine yaR (ev:=s.ev) (ob:=s.yRU) (λt b hg=>ev t (ycp hg)) (λH k hk'=>yeO hx ex ?_) hu;exact ysu hx (E:=λi=>i∈(res.fK d).map _) (λi hi=>nR hi) (hm'.yFN hs) (λz hz j hj hE=>yhv (hs j (hm'.none hE)) (by simp_all) hj) H k hk'
theorem yJY(hs:Sound s)(hy:y.op.reads.isSome=true)(hk:y.op.xs.all X.kok=true)(ha:Apart x y)(h1:TrN P x s s1)(h2:TrQ P y ly s1 s2):∃s1',TrQ P y ly s s1'/\TrN P x s1' s2:=by
 obtain⟨d,res,f,xs,args,hm,rfl⟩:=h1;obtain⟨u,rfl,hu,rfl⟩:=h2;have ev:∀t,t∈y.rdx->s.env t=(s.take d res).env t:=λt ht=>(lQ λ(h:t=d)=>ha.xy d hm.dst (h▸ht)).symm;have ey:=lU (i:=y) ev;have ex:=lU (i:=x) (s:=s) (s2:=s.put _ u) λt ht=>ha.yug t ht;have hne:=ha.ne d hm.dst;refine⟨_,⟨u,rfl,?_,(yfi ey).symm⟩,⟨d,_,f,_,_,hm.at ex (λh=>by rw[<-yam]at h|-;grind [mJ]) ⟨λp hp=>by have:=hm.fresh.1 p hp;show(s.put _ u).yRU _=_;rw[mJ];exact this,hm.fresh.2⟩,(yAM hne).symm⟩⟩;refine yaR (ev:=(s.take d _).ev) (λt b hg=>ev t (ycp hg)) (λH k hk'=>yeO hy ey ?_) hu;exact ysu hy (E:=λi=>i∈(res.fK d).map _) (λi hi=>(nR hi).symm) (hm.cells hs) (λz hz j hj hE=>yhv (hs j (hm.none hE)) (zaf.1 hk z hz) (by grind)) H k hk'
theorem yLN(hs:Sound s)(hkx:x.op.xs.all X.kok=true)(hk:y.op.xs.all X.kok=true)(ha:Apart x y)(h1:TrN P x s s1)(h2:TrN P y s1 s2):∃s1',TrN P y s s1'/\TrN P x s1' s2:=by
 obtain⟨d,res,f,xs,args,hm,rfl⟩:=h1;obtain⟨d',res',f',xs',args',hm',rfl⟩:=h2;have hne:d≠d':=λh=>ha.ne d hm.dst (h▸hm'.dst);have ey:=lU (i:=y) (s:=s.take d res) (s2:=s) λt ht=>(lQ λ(h:t=d)=>ha.xy d hm.dst (h▸ht)).symm;have ex:=lU (i:=x) (s:=s) (s2:=s.take _ res') λt ht=>lQ λ(h:t=d')=>ha.yx _ hm'.dst (h▸ht)
 have hdis:∀i,i∈(res'.fK d').map (·.1)->i∉(res.fK d).map (·.1):=by
  intro i hi hc;have h1:=hm'.none hi;obtain⟨p,hp,rfl⟩:=yxu hc;rw[yhQ hm.fresh.2 hp]at h1
  grind [yx3]
 have hfr:∀i,i∈(res'.fK d').map (·.1)->s.yRU i=.none:=by
  intro i hi;have h1:=hm'.none hi
  grind [nR]
 have hmap:xs'.map _=xs'.map _:=zbg λz hz=>(ey z (by rw[hm'.opr];exact hz)).symm
 have hy:=hm'.at ey (λh=>by
  rw[<-yam]at h|-;refine rX (E:=λi=>i∈(res.fK d).map _) (λi hi=>(nR hi).symm) (hm.cells hs) (λa ha' j hj hE=>?_) h;rw[hmap]at ha';obtain⟨z,hz,rfl⟩:=zaP.1 ha';exact yhv (hs j (hm.none hE)) (zaf.1 hk z (by rw[hm'.opr];exact hz)) (yar hj)) ⟨λp hp=>hfr _ (by grind),hm'.fresh.2⟩
 refine⟨_,⟨_,_,_,_,_,hy,rfl⟩,⟨d,_,f,_,_,hm.at ex (λh=>?_) ⟨λp hp=>?_,hm.fresh.2⟩,?_⟩⟩
 .rw[<-yam]at h|-;exact rX (E:=λi=>i∈(res'.fK _).map _) (λi hi=>nR hi) (hy.yFN hs) (λa ha' j hj hE=>hm.yxn hs hkx (hy.none hE) a ha' hj) h
 .show(s.take _ _).yRU _=_
  rw[nR (by grind)];exact hm.fresh.1 p hp
 .refine St.ext' (λt=>?_) λi=>?_
  .grind [lQ,yao]
  .by_cases h1:i∈(res.fK d).map (·.1)
   .have h2:=λh=>hdis i h h1;rw[nR h2];obtain⟨p,hp,rfl⟩:=yxu h1;rw[yhQ hm.fresh.2 hp,yhQ hm.fresh.2 hp]
   .rw[nR (s:=s.take _ _) h1]
    by_cases h2:i∈(res'.fK d').map (·.1)
    .obtain⟨p,hp,rfl⟩:=yxu h2;rw[yhQ hm'.fresh.2 hp,yhQ hm'.fresh.2 hp]
    grind [nR]
theorem yLV(hs:Sound s)(hkx:x.op.xs.all X.kok=true)(ha:Apart x y)(h1:TrN P x s s1)(h2:TrM P y ly s1 s2):∃s1',TrM P y ly s s1'/\TrN P x s1' s2:=by
 obtain⟨d,res,f,xs,args,hm,rfl⟩:=h1;obtain⟨e,o,v,hd,h0,rfl,hb,hv,hxs,rfl,ag⟩:=h2;have hne:d≠e:=λh=>ha.ne d hm.dst (h▸hd)
 have hE:e∉(res.fK d).map (·.1):=by
  intro hc;obtain⟨p,hp,rfl⟩:=yxu hc;rw[yhQ hm.fresh.2 hp]at h0
  grind [yx3]
 rw[nR hE]at h0;have ey:=lU (i:=y) (s:=s.take d res) (s2:=s) λt ht=>(lQ λ(h:t=d)=>ha.xy d hm.dst (h▸ht)).symm;have ex:=lU (i:=x) (s:=s) (s2:=⟨upd e v _,upd e o _⟩) λt ht=>new_ne λh=>ha.yx e hd (h▸ht)
 refine⟨_,⟨e,o,v,hd,h0,rfl,hb,hv,by grind,rfl,by simp_all⟩,
  ⟨d,_,f,_,_,hm.at ex (λh=>?_) ⟨λp hp=>?_,hm.fresh.2⟩,?_⟩⟩
 .rw[<-yam]at h|-;exact rX (E:=λi=>i=e) (λi hi=>oK hi) (λi cells hi z hz j hj hc=>(hs e h0).2 i _ hi z hz (hc▸hj)) (λa ha' j hj hc=>hm.yxn hs hkx h0 a ha' (hc▸hj)) h
 .show(⟨_,_⟩:St).yRU _=_
  rw[oK (by grind)];exact hm.fresh.1 p hp
 .refine St.ext' (λt=>?_) λi=>?_
  .by_cases h1:t=e
   .subst h1;rw[yc2,lQ (Ne.symm hne),yc2]
   .rw[new_ne h1]
    by_cases h2:t=d
    .grind [yao]
    .rw[lQ h2,lQ h2,new_ne h1]
  .by_cases h1:i=e
   .subst h1;rw[yM,nR hE,yM]
   .rw[oK h1];exact yhJ (oK h1).symm
theorem yLR(hs:Sound s)(hk:y.op.xs.all X.kok=true)(ha:Apart x y)(h1:TrM P x lx s s1)(h2:TrN P y s1 s2):∃s1',TrN P y s s1'/\TrM P x lx s1' s2:=by
 obtain⟨e,o,v,hd,h0,rfl,hb,hv,hxs,rfl,ag⟩:=h1;obtain⟨d,res,f,xs,args,hm,rfl⟩:=h2;have hne:d≠e:=λh=>ha.ne e hd (h▸hm.dst)
 have hE:e∉(res.fK d).map (·.1):=by
  intro hc;have h3:=hm.none hc;rw[yM]at h3
  grind
 have ey:=lU (i:=y) (s:=⟨upd e v _,upd e o _⟩) (s2:=s) λt ht=>(new_ne λ(h:t=e)=>ha.xy e hd (h▸ht)).symm;have ex:=lU (i:=x) (s:=s) (s2:=s.take d res) λt ht=>lQ λ(h:t=d)=>ha.yx d hm.dst (h▸ht);have hmap:xs.map _=xs.map _:=zbg λz hz=>(ey z (by rw[hm.opr];exact hz)).symm
 have hy:=hm.at ey (λh=>by
  rw[<-yam]at h|-;refine rX (E:=λi=>i=e) (λi hi=>(oK hi).symm) (λi cells hi z hz j hj hc=>?_) (λa ha' j hj hc=>?_) h
  .subst hc
   by_cases h4:i=j
   .subst h4;rw[yM]at hi;subst hi;have h5:=rU hj;rw[hb.1 z hz]at h5;grind
   .rw[oK h4]at hi;exact(hs j h0).2 i _ hi z hz hj
  .subst hc;rw[hmap]at ha';obtain⟨z,hz,rfl⟩:=zaP.1 ha';exact yhv (hs j h0) (zaf.1 hk z (by rw[hm.opr];exact hz)) (yar hj)) ⟨λp hp=>by
   have h3:=hm.fresh.1 p hp;have h4:(⟨_,_⟩:St).yRU _=.none:=h3
   rwa [oK (by grind)]at h4,hm.fresh.2⟩
 refine⟨_,⟨d,_,f,_,_,hy,rfl⟩,⟨e,o,v,hd,by grind [nR],?_,hb,hv,by grind,rfl,by grind⟩⟩;refine St.ext' (λt=>?_) λi=>?_
 .by_cases h1:t=e
  .subst h1;rw[lQ (Ne.symm hne),yc2,yc2]
  .rw[new_ne h1]
   by_cases h2:t=d
   .grind [yao]
   .rw[lQ h2,lQ h2,new_ne h1]
 .by_cases h1:i=e
  .subst h1;rw[nR hE,yM,yM]
  .rw[oK h1];exact yhJ (oK h1)
end
end Go.Proofs.YtdadkiofenhnbaaGreat
namespace Go.Proofs.YtdadkiofenhnbaaGreat
open Go.RowKit
def TrS(P:Program)(i:Ins)(s s':St):Prop:=
 match i.g with
 |none=>False
 |some (t,want)=>fZ (s.env t) want (∀K:St->Prop,K s'->kF P i.d i.op s K) (s'=s.put i.d .und)
def Tr(P:Program)(r:ySo)(lab:Lab)(s s':St):Prop:=
 match r.k with
 |0=>TrQ P r.i lab s s'\/TrN P r.i s s'
 |1=>TrM P r.i lab s s'
 |2=>TrE P r.i lab s s'
 |_=>TrS P r.i s s'
def yem(a b:Lab):Bool:=(a.1.all λi=>!b.1.contains i)&&b.2
def Run(P:Program)(rs:List ySo)(lab:Nat->Lab):List Nat->St->St->Prop
 |[],s,sf=>s=sf
 |j::L,s,sf=>∃r s1,rs[j]?=some r/\Tr P r (lab j) s s1/\Run P rs lab L s1 sf
def ybT(chk:List Nat)(h:List (Nat×Lab))(lab:Lab):Bool:=chk.all λi=>yem (look ([],true) h i) lab
def iU(b:Bool)(n:Nat)(lab:Lab)(h:List (Nat×Lab)):List (Nat×Lab):=if b then(n,lab)::h else h
def yJA(P:Program)(i:Ins)(s:St)(K:Lab->St->Prop):Prop:=∃lab s',TrE P i lab s s'/\K lab s'
def wpE(P:Program):Nat->List ySo->List (Nat×Lab)->St->(St->Prop)->Prop
 |_,[],_,s,K=>K s
 | n,r::l,h,s,K=>
  match r.k with
  |0=>(ygj P r.i s.ev s.yRU λv=>ybT r.chk h (ybH r.i s v)=true/\wpE P (n+1) l (iU r.note n (ybH r.i s v) h) (s.put r.i.d v) K)\/
      mkE P r.i s λs'=>ybT r.chk h ([],true)=true/\wpE P (n+1) l (iU r.note n ([],true) h) s' K
  |1=>ybT r.chk h (yvS r.i)=true/\ydf P r.i.d r.i.op s λs'=>wpE P (n+1) l (iU r.note n (yvS r.i) h) s' K
  |2=>if r.i.op.qF then yJA P r.i s λlab s'=>ybT r.chk h lab=true/\wpE P (n+1) l (iU r.note n lab h) s' K
   else ybT r.chk h (yBR r.i s)=true/\kF P r.i.d r.i.op s λs'=>wpE P (n+1) l (iU r.note n (yBR r.i s) h) s' K
  |_=>∃s',TrS P r.i s s'/\ybT r.chk h ([],true)=true/\wpE P (n+1) l (iU r.note n ([],true) h) s' K
section
variable {P:Program} {g:ySm} {N:Nat} {s:St} {a:Act} {w:World} {blk:Lay} {ops:Array Oper}
theorem ysd{r:ySo}(h:r.ok=true):r.i.op.xs.all X.kok=true/\
 ((r.k=0/\r.i.op.reads.isSome=true)\/(r.k=1/\r.i.g=none/\r.i.op.isMk=true/\r.i.d.isSome=true)\/(r.k=2/\r.i.g=none/\(r.i.op.qF=true\/(r.i.op.qF=false/\r.i.op.yjK=true)))\/r.k=3):=by
 unfold ySo.ok at h;rw[zad]at h;refine⟨h.2,?_⟩;have h1:=h.1;rw[zbr,zbr]at h1;rcases h1 with(h1|h1)|h1
 case inr=>
  grind
 case inl.inr=>
  simp[zad,beq_iff_eq]at h1
  grind [IOp.yjK]
 unfold Ins.kind at h1;split at h1
 .grind
 .split at h1
  .simp_all
  simp_all [IOp.yjK]
theorem yuM{i:Ins}(h:i.op.reads.isSome=true):∃l,i.reads=some l:=by
 grind [Option.isSome_iff_exists,Ins.reads]
theorem yJQ(hN:g.N=N)(h:Repr g s a w blk){o:Oper}{r:ySo}(hc:ybf P N ops o=some r.i)(hok:r.ok=true){lab:Lab}{s':St}(ht:Tr P r lab s s'):
 (Region.wanted o (yielded ops a.tmps)=true/\iE P g o a w (λs2=>s2=s'))\/(Region.wanted o (yielded ops a.tmps)=false/\Repr g s' (a.put o.dst undef) w blk):=by
 obtain⟨hd0,op,hop,hid,hiop,hg⟩:=yqR hc;have hd:∀d,o.dst=some d->d<g.N:=by grind
 have noguard:r.i.g=none->kF P o.dst op s (λs2=>s2=s')->Region.wanted o (yielded ops a.tmps)=true/\iE P g o a w (λs2=>s2=s'):=by
  grind [step_ok,Region.wanted]
 obtain⟨hk,hkind⟩:=ysd hok;unfold Tr at ht;rcases hkind with⟨e,h1⟩|⟨e,h1,h2,h3⟩|⟨e,h1,h2⟩|e
 .rw[e]at ht;rcases ht with ht|ht
  .obtain⟨v,rfl,hv,_⟩:=ht
   grind [yuM,ytS]
  .obtain⟨d,res,f,xs,args,hm,rfl⟩:=ht;refine .inl (noguard hm.gd ?_);rw[<-hid,<-hiop];exact hm.step rfl
 .rw[e]at ht;obtain⟨q,ob,v,hdq,h0,rfl,_,_,_,_,ag⟩:=ht
  grind [yBy]
 .rw[e]at ht;obtain⟨Kl,U,v,rfl,ok,_⟩:=ht;refine .inl (noguard h1 ?_);rw[<-hid,<-hiop];exact ok.again s (λ_ _=>rfl) (λ_ _ _ _=>rfl) (λ_ _ h=>h) _ rfl
 .rw [e]at ht;replace ht:TrS P r.i s s':=ht;unfold TrS at ht;rcases hg with⟨e1,e2⟩|⟨j,want,t,e1,e2,htl,e3⟩
  .grind
  .rw [e3]at ht;simp only at ht;have hen:=h.at_ htl
   have hy:∀v:Bool,a.tmps.getD t undef=.bool v->yielded ops a.tmps j=some v:=by
    intro v hv;unfold yielded;rw[e2];simp only[zcg]
    have:a.tmps[t]?=some (.bool v):=by
     rw[zan]at hv
     grind [undef]
    grind
   unfold fZ at ht;split at ht
   .rename_i v hvv;rw[hvv]at hen;have hb:=hen.bool
    by_cases e:v=want
    .grind [step_ok,Region.wanted]
    .have hr:=ht.2 (by cases v<;>cases want<;>simp_all);refine .inr ⟨by grind [Region.wanted],?_⟩;rw[hr,hid];exact h.put hd (v:=undef) (x:=.und) (show undef=undef from rfl)
   .rename_i hvv;rw[hvv]at hen;have hu:a.tmps.getD t undef=undef:=hen
    have hyn:yielded ops a.tmps j=none:=by
     unfold yielded;rw[e2];simp only[zcg];cases hq:a.tmps[t]? with
     |none=>rfl
     |some u=>
      simp_all [undef]
    refine .inr ⟨by grind [Region.wanted],?_⟩;rw[ht,hid];exact h.put hd (v:=undef) (x:=.und) (show undef=undef from rfl)
   grind
theorem yC1(hN:g.N=N)(h:Repr g s a w blk){o:Oper}{r:ySo}(hc:ybf P N ops o=some r.i)(hok:r.ok=true){lab:Lab}{s':St}(ht:Tr P r lab s s'):∃a' w' blk',Repr g s' a' w' blk':=by
 rcases yJQ (ops:=ops) hN h hc hok ht with⟨_,ho⟩|⟨_,ho⟩
 .obtain⟨s2,a',w',blk',e,hr⟩:=ho.some_
  grind
 grind
structure ySC(P:Program)(N:Nat)(ops:Array Oper)(rs:List ySo)(anc:List Nat):Prop where
 len:rs.length=ops.size
 ins:∀(j:Nat) (o:Oper),ops[j]?=some o->∃r,rs[j]?=some r/\ybf P N ops o=some r.i
 ok:∀(j:Nat) (r:ySo),rs[j]?=some r->r.ok=true
 back:∀(j:Nat) (o:Oper),ops[j]?=some o->∀e∈o.after,Region.binds .any e=true->e.on<j
 pair:∀(i j:Nat) (x y:ySo),i<j->rs[i]?=some x->rs[j]?=some y->(anc.getD j 0).testBit i=true\/ycq x y=some true\/(ycq x y=some false/\i∈y.chk/\x.note=true)
inductive Anc(ops:List Oper)(i:Nat):Nat->Prop where
 |edge {j:Nat} {o:Oper} {e:Edge}:ops[j]?=some o->e∈o.after->Region.binds .any e=true->e.on=i->Anc ops i j
 |step {j:Nat} {o:Oper} {e:Edge}:ops[j]?=some o->e∈o.after->Region.binds .any e=true->Anc ops i e.on->Anc ops i j
theorem yux(all:List Oper):∀(l:List Oper) (acc:List Nat),all.drop acc.length=l->(∀j i,(acc.getD j 0).testBit i=true->Anc all i j)->∀j i,((yDk acc l).getD j 0).testBit i=true->Anc all i j
 |[],acc,_,h=>h
 | o ::l,acc,hd,h=>by
  have hlt:acc.length<all.length:=by
   grind [List.drop_eq_nil_of_le]
  rw[zaF hlt]at hd;obtain⟨ho,hl⟩:=List.cons.inj hd;have ho':all[acc.length]?=some o:=by grind
  refine yux _ l _ (by grind) λj i hb=>?_;rcases zcH j _ with e|e|e
  .rw[List.getD,zaX e]at hb
   simp_all
  .subst e;rw[List.getD,zaz (by simp_all)]at hb;simp only[zcc,zbP,zbc]at hb
   have fold:∀(es:List _) (m:Nat),(∀e,e∈es->e∈o.after)->(m.testBit i=true->Anc all i acc.length)->(es.foldl (λm e=>if Region.binds .any e then m|||(1<<<e.on)|||(acc.getD e.on 0)else m) m).testBit i=true->Anc all i acc.length:=by
    intro es
    induction es with
    |nil=>simp
    | cons e es ih=>
     intro m hes hm hb;refine ih _ (by grind) (λhb'=>?_) hb;dsimp only at hb';split at hb'
     .rename_i hbd;rw[Nat.testBit_or,Nat.testBit_or,zbr,zbr]at hb';rcases hb' with(hb'|hb')|hb'
      .grind
      .rw[Nat.one_shiftLeft,Nat.testBit_two_pow]at hb';exact .edge ho' (by grind) hbd (by grind)
      .exact .step ho' (hes e (by simp)) hbd (h _ _ hb')
     grind
   grind
  grind
theorem yCO{listed:Array Bool}(hdown:∀(j:Nat) (o:Oper),ops[j]?=some o->listed.getD j true=true->∀e∈o.after,Region.binds .any e=true->listed.getD e.on false=true)(hsz:listed.size=ops.size){i:Nat}:
 ∀{j:Nat},Anc ops.toList i j->(∀o,ops[j]?=some o->∀e∈o.after,Region.binds .any e=true->listed.getD e.on false=true)->listed.getD i false=true:=by
 intro j h
 induction h with
 |edge ho he hb hi=>
  grind
 |@step j o e ho he hb hanc ih=>
  grind
theorem yj5{x y:ySo}{b:Bool}(h:ycq x y=some b):ytN x.i y.i=true:=by
 grind [ycq]
theorem yHR{a b:Lab}(h:yem a b=true):(∀j,j∈a.1->j∉b.1)/\b.2=true:=by
 grind [yem]
theorem yIp{x y:ySo}{lx ly:Lab}{s1 s2:St}(hs:Sound s)(okx:x.ok=true)(oky:y.ok=true)(hsw:ycq x y=some true\/(ycq x y=some false/\yem lx ly=true))(h1:Tr P x lx s s1)(h2:Tr P y ly s1 s2):∃s1',Tr P y ly s s1'/\Tr P x lx s1' s2:=by
 have ha:Apart x.i y.i:=by
  grind [yAq,yj5]
 have hdis:ycq x y=some false->(∀j,j∈lx.1->j∉ly.1)/\ly.2=true:=by
  grind [yHR]
 obtain⟨kx,hkx⟩:=ysd okx;obtain⟨ky,hky⟩:=ysd oky;have hap:ytN x.i y.i=true:=by grind [yj5]
 have n3:x.k≠3/\y.k≠3:=by
  grind [ycq]
 have hkx:=hkx.imp_right λh=>h.imp_right λh=>h.resolve_right n3.1;have hky:=hky.imp_right λh=>h.imp_right λh=>h.resolve_right n3.2;unfold Tr at h1 h2|-;rcases hkx with⟨ex,hx1⟩|⟨ex,hx1,hx2,hx3⟩|⟨ex,hx1,hx2⟩<;>rcases hky with⟨ey,hy1⟩|⟨ey,hy1,hy2,hy3⟩|⟨ey,hy1,hy2⟩<;>rw[ex]at h1|-<;>rw[ey]at h2|-<;>simp only at h1 h2|-
 .grind [yL2,yLf,yJY,yLN]
 .grind [yKi,yLV]
 .unfold ycq at hsw hdis;rw[if_pos hap,ex,ey]at hsw hdis;simp only at hsw hdis
  by_cases hc:x.i.op.qF=true
  .grind
  .rw[if_neg hc]at hsw hdis;rcases h1 with h1|⟨d,res,f,xs,args,hm,_⟩
   .grind [yKI]
   .exact absurd hm.qF hc
 .grind [yKq,yLR]
 .grind [yMf]
 .grind [yLk]
 .unfold ycq at hsw hdis;rw[if_pos hap,ex,ey]at hsw hdis;simp only at hsw hdis
  by_cases hc:y.i.op.qF=true
  .grind
  .rw[if_neg hc]at hsw hdis;rcases h2 with h2|⟨d,res,f,xs,args,hm,_⟩
   .grind [yJ5]
   .exact absurd hm.qF hc
 .grind [yKb,ycq]
 grind [ycq]
theorem bubble{anc:List Nat}{rs:List ySo}(hR:ySC P N ops rs anc)(hN:g.N=N){lab:Nat->Lab}(hchk:∀(j:Nat) (r:ySo),rs[j]?=some r->∀i,i∈r.chk->yem (lab i) (lab j)=true){j:Nat}{L2:List Nat}{sf:St}:
 ∀(L1:List Nat) (s:St) (a:Act) (w:World) (blk:Lay),Repr g s a w blk->(∀i,i∈L1->i<j/\¬(anc.getD j 0).testBit i=true)->Run P rs lab (L1++j::L2) s sf->∃r s1,rs[j]?=some r/\Tr P r (lab j) s s1/\Run P rs lab (L1++L2) s1 sf:=by
 intro L1
 induction L1 with
 |nil=>intro s a w blk _ _ h;exact h
 | cons i L1 ih=>
  intro s a w blk hr hL h;obtain⟨x,s1,hx,ht,hrun⟩:=h
  have hi:∃o,ops[i]?=some o:=by
   have:i<ops.size:=by rw[<-hR.len];grind
   simp_all
  obtain⟨o,ho⟩:=hi;obtain⟨x',hx',hcx⟩:=hR.ins i o ho;rw[hx]at hx';cases hx';obtain⟨a1,w1,blk1,hr1⟩:=yC1 (ops:=ops) hN hr hcx (hR.ok i x hx) ht;obtain⟨y,s2,hy,hty,hrun2⟩:=ih s1 a1 w1 blk1 hr1 (λq hq=>hL q (by grind)) hrun;obtain⟨hij,hna⟩:=hL i (by simp)
  have hsw:ycq x y=some true\/(ycq x y=some false/\yem (lab i) (lab j)=true):=by
   rcases hR.pair i j x y hij hx hy with e|e|⟨e,e1,_⟩<;>grind
  obtain⟨s1',h1,h2⟩:=yIp hr.sound (hR.ok i x hx) (hR.ok j y hy) hsw ht hty;exact⟨y,s1',hy,h1,x,s2,hx,h2,hrun2⟩
theorem yFe{b:Bool}{n i:Nat}{lab:Lab}{h:List (Nat×Lab)}:look ([],true) (iU b n lab h) i=if b=true/\i=n then lab else look ([],true) h i:=by
 grind [yk7,iU]
theorem trace{anc:List Nat}{rs:List ySo}(hR:ySC P N ops rs anc)(hnote:∀(j:Nat) (y:ySo),rs[j]?=some y->∀i,i∈y.chk->i<j/\∃x,rs[i]?=some x/\x.note=true)(hN:g.N=N){K:St->Prop}:
 ∀(m n:Nat) (h:List (Nat×Lab)) (s:St) (a:Act) (w:World) (blk:Lay) (lab0:Nat->Lab),n+m=rs.length->(∀i x,i<n->rs[i]?=some x->x.note=true->look ([],true) h i=lab0 i)->Repr g s a w blk->wpE P n (rs.drop n) h s K->
  ∃lab sf,(∀i,i<n->lab i=lab0 i)/\K sf/\Run P rs lab (List.range' n m) s sf/\∀(j:Nat) (r:ySo),n<=j->rs[j]?=some r->∀i,i∈r.chk->yem (lab i) (lab j)=true:=by
 intro m
 induction m with
 |zero=>
  intro n h s a w blk lab0 hnm _ _ hw;rw[zcy (by omega)]at hw;refine⟨lab0,s,λ_ _=>rfl,hw,rfl,λj r hj hr=>?_⟩
  grind
 | succ m ih=>
  intro n h s a w blk lab0 hnm hh hr hw;have hlt:n<rs.length:=by omega
  have hrn:=zab hlt;rw[zaF hlt]at hw;revert hrn hw;generalize rs[n]=r;intro hw hrn;have hi:∃o,ops[n]?=some o:=⟨_,zaL (by rw[<-hR.len];omega)⟩;obtain⟨o,ho⟩:=hi;obtain⟨r',hr',hcr⟩:=hR.ins n o ho;rw[hrn]at hr';cases hr';have hok:=hR.ok n r hrn
  have go:∀(s1:St) (ln:Lab),Tr P r ln s s1->ybT r.chk h ln=true->wpE P (n+1) (rs.drop (n+1)) (iU r.note n ln h) s1 K->∃lab sf,(∀i,i<n->lab i=lab0 i)/\K sf/\Run P rs lab (List.range' n (m+1)) s sf/\∀(j:Nat) (r:ySo),n<=j->rs[j]?=some r->∀i,i∈r.chk->yem (lab i) (lab j)=true:=by
   intro s1 ln ht hc hw1;obtain⟨a1,w1,blk1,hr1⟩:=yC1 (ops:=ops) hN hr hcr hok ht
   have hnx:∀i x,i<n+1->rs[i]?=some x->x.note=true->look ([],true) (iU r.note n ln h) i=if i=n then ln else lab0 i:=by
    grind [yFe]
   obtain⟨lab,sf,e1,e2,e3,e4⟩:=ih (n+1) (iU r.note n ln h) s1 a1 w1 blk1 (λi=>if i=n then ln else lab0 i) (by omega) hnx hr1 hw1
   .have hn:lab n=ln:=by grind
    refine⟨lab,sf,λi hin=>?_,e2,?_,λj r2 hj hr2 i hi=>?_⟩
    .rw[e1 i (by omega),if_neg (by omega)]
    .rw[zdK];exact⟨r,s1,hrn,by grind,e3⟩
    .rcases zas n j with hj'|hj'
     .grind
     .have:j=n:=by omega
      subst this;rw[hrn]at hr2;cases hr2;obtain⟨hin,x,hx,hxn⟩:=hnote j r hrn i hi;have:=zaf.1 hc i hi;rw[hh i x hin hx hxn]at this;rw[hn,e1 i (by omega),if_neg (by omega)];omega
  obtain⟨hk,hkind⟩:=ysd hok;unfold wpE at hw;rcases hkind with⟨e,h1⟩|⟨e,h1,h2,h3⟩|⟨e,h1,h2⟩|e
  .rw[e]at hw;simp only at hw;rcases hw with hw|hw
   .obtain⟨l,hl⟩:=yuM h1;obtain⟨v,⟨hc,hw1⟩,hall⟩:=yzz (P:=P) hr hl _ hw;refine go _ _ ?_ hc hw1;unfold Tr;rw[e];exact .inl ⟨v,rfl,hall,rfl⟩
   .obtain⟨d,res,f,xs,args,hm,hc,hw1⟩:=yIO hw;refine go _ _ ?_ hc hw1;unfold Tr;rw[e];exact .inr ⟨d,res,f,xs,args,hm,rfl⟩
  .rw[e]at hw;simp only at hw;obtain⟨hc,hw⟩:=hw;obtain⟨q,ob,v,a1,a2,a3,a4,a5,a6,a7⟩:=yIx h2 hw;refine go _ _ ?_ hc a3;unfold Tr;rw[e];exact⟨q,ob,v,a1,a2,rfl,a4,a5,a6,rfl,a7⟩
  .rw[e]at hw;simp only at hw;rcases h2 with h2|⟨h0,h2⟩
   .rw[if_pos h2]at hw;obtain⟨ln,s1,ht,hc,hw1⟩:=hw
    grind [Tr]
   rw[if_neg (by grind)]at hw;obtain⟨hc,hw⟩:=hw;obtain⟨Kl,U,v,a1,a2⟩:=yGc h2 hw;refine go _ _ ?_ hc a1;unfold Tr;rw[e];refine⟨Kl,U,v,rfl,a2,λj hj=>?_,rfl⟩;rcases yIR h2 hj with hj|hj
   .grind [yIg]
   grind
  grind [Tr]
theorem yyF{p q:Nat->Bool}{n j:Nat}(hj:j<n)(hp:p j=true)(hq:q j=false)(hpq:∀i,i≠j->p i=q i):
 ∃L1 L2,(List.range n).filter p=L1++j::L2/\(List.range n).filter q=L1++L2/\∀i,i∈L1->i<j/\p i=true:=by
 have e:List.range n=List.range j++j::(List.range n).drop (j+1):=by
  conv=>lhs;rw[<-zav j (List.range n)]
  grind [List.drop_eq_getElem_cons]
 refine⟨(List.range j).filter p,((List.range n).drop (j+1)).filter p,?_,?_,λi hi=>?_⟩
 .grind
 .grind [List.filter_congr,List.getElem?_of_mem]
 grind
def yG6{anc:List Nat}{rs:List ySo}(hR:ySC P N ops rs anc)(hanc:∀j i,(anc.getD j 0).testBit i=true->Anc ops.toList i j)(hN:g.N=N){lab:Nat->Lab}(hchk:∀(j:Nat) (r:ySo),rs[j]?=some r->∀i,i∈r.chk->yem (lab i) (lab j)=true){Q:Exit->Act->World->Prop}{sf:St}
 (hQ:∀a' w' blk',Repr g sf a' w' blk'->Q .normal a' w'):
 ∀(fuel:Nat) (listed:Array Bool) (s:St) (a:Act) (w:World) (blk:Lay),listed.size=ops.size->(∀(j:Nat) (o:Oper),ops[j]?=some o->listed.getD j true=true->∀e∈o.after,Region.binds .any e=true->listed.getD e.on false=true)->
  Repr g s a w blk->Run P rs lab ((List.range ops.size).filter λj=>!listed.getD j true) s sf->((List.range ops.size).filter λj=>!listed.getD j true).length=fuel->wpAny P .any ops Q fuel listed a w:=by
 intro fuel
 have done:∀(listed:Array Bool) (s:St) (a:Act) (w:World) (blk:Lay),listed.size=ops.size->Repr g s a w blk->Run P rs lab ((List.range ops.size).filter λj=>!listed.getD j true) s sf->Region.ready .any ops listed=[]->Q .normal a w:=by
  intro listed s a w blk hs hr hrun hnil
  have hall:∀j,j<ops.size->listed.getD j true=true:=by
   intro j
   induction j using Nat.strongRecOn with
   | _ j ih=>
    intro hj;cases hl:listed.getD j true with
    |true=>rfl
    | false=>
     exfalso
     have:j∈Region.ready .any ops listed:=by
      unfold Region.ready;rw[zbE];refine⟨zaN.2 hj,?_⟩;rw[zaL hj];simp only[hl,zaT,zbc,Bool.not_false,zaW,zca,zbr,zbb];intro e he;cases hb:Region.binds .any e with
      |false=>exact .inl rfl
      |true=>
       have h1:=hR.back j _ (zaL hj) e he hb;have h2:=ih e.on h1 (by omega);refine .inr ?_;rw[zan,zaL (by omega)]at h2|-;exact h2
     rw[hnil]at this;cases this
  have:(List.range ops.size).filter (λj=>!listed.getD j true)=[]:=by
   rw[zce];intro j hj;simp[hall j (zaN.1 hj)]
  rw[this]at hrun;have e:s=sf:=hrun;exact hQ a w blk (e▸hr)
 induction fuel with
 | zero=>
  intro listed s a w blk hs hdown hr hrun hcount
  have hnil:Region.ready .any ops listed=[]:=by
   rw[zay,zce]at hcount;unfold Region.ready;rw[zce];intro j hj;have:=hcount j hj;simp only[zbb,zei]at this;simp[this]
  exact⟨hnil,done listed s a w blk hs hr hrun hnil⟩
 | succ fuel ih=>
  intro listed s a w blk hs hdown hr hrun hcount;refine⟨λhnil=>done listed s a w blk hs hr hrun hnil,λi hi=>?_⟩;unfold Region.ready at hi;rw[zbE]at hi;obtain⟨hi1,hi2⟩:=hi;have hio:=zaN.1 hi1;have ho:=zaL hio;revert ho;generalize ops[i]=o;intro ho;rw[ho]at hi2;simp only[zaT,zbc,zad,zbb,zca,zbr]at hi2;obtain⟨hnl,haft⟩:=hi2
  have hpre:∀o',ops[i]?=some o'->∀e∈o'.after,Region.binds .any e=true->listed.getD e.on false=true:=by
   intro o' ho' e he hb;rw[ho]at ho';cases ho';rcases haft e he with h|h
   .rw[hb]at h;cases h
   .exact h
  have hnext2:∀j,j≠i->(listed.setIfInBounds i true).getD j true=listed.getD j true:=by
   intro j e;rw[zan,zbt,if_neg (Ne.symm e),<-zan]
  have hset:(listed.setIfInBounds i true).getD i true=true:=by
   rw[zan,zbt,if_pos rfl];simp[hs,hio]
  have hset2:∀j,listed.getD j false=true->(listed.setIfInBounds i true).getD j false=true:=by
   intro j hj;rw[zan,zbt]
   by_cases e:i=j
   .subst e;simp[hs,hio]
   .rw[if_neg e,<-zan];exact hj
  obtain⟨L1,L2,e1,e2,e3⟩:=yyF (p:=λj=>!listed.getD j true) (q:=λj=>!(listed.setIfInBounds i true).getD j true) hio (by simp[hnl]) (by simp[hset]) (λj hj=>by simp only[hnext2 j hj]);rw[e1]at hrun hcount
  obtain⟨r,s1,hri,ht,hrun1⟩:=bubble hR hN hchk L1 s a w blk hr (λq hq=>⟨(e3 q hq).1,λhb=>by
   have h1:=yCO hdown hs (hanc i q hb) hpre;have h2:listed.getD q true=false:=by simpa using(e3 q hq).2
   rw[zan]at h1 h2;cases hq':listed[q]? with
   |none=>rw[hq']at h1;cases h1
   |some b=>rw[hq']at h1 h2;simp at h1 h2;rw[h1]at h2;cases h2⟩) hrun
  obtain⟨r',hr',hcr⟩:=hR.ins i o ho;rw[hri]at hr';cases hr'
  have cont:∀a' w' blk',Repr g s1 a' w' blk'->wpAny P .any ops Q fuel (listed.setIfInBounds i true) a' w':=by
   intro a' w' blk' hr';refine ih (listed.setIfInBounds i true) s1 a' w' blk' (by simpa using hs) ?_ hr' (by rw[e2];exact hrun1) ?_
   .intro j o' hj hlj e he hb
    by_cases h1:j=i
    .subst h1;exact hset2 _ (hpre o' hj e he hb)
    .rw[hnext2 j h1]at hlj;exact hset2 _ (hdown j o' hj hlj e he hb)
   .rw[e2];simp at hcount|-;omega
  unfold wpOp;rw[ho];rcases yJQ (ops:=ops) hN hr hcr (hR.ok i r hri) ht with⟨e,hok⟩|⟨e,hrr⟩
  .simp only[e,if_true];exact .inl (hok.wp λs' blk' a' w' hs' hr'=>cont a' w' blk' (by rw[hs']at hr';exact hr'))
  .simp only[e];exact cont _ _ _ hrr
def yA9{f:Nat->Ins->ySo}:∀{l:List Ins} {n j:Nat} {i:Ins},l[j]?=some i->∃r,(yGd f n l)[j]?=some r/\r.i=i
 |[],_,_,_,h=>by simp at h
 |x::l,n,j,i,h=>by
  cases j with
  |zero=>simp at h;subst h;exact⟨_,rfl,rfl⟩
  |succ j=>exact yA9 (l:=l) (n:=n+1) (by simpa using h)
def yBb{f:Nat->Ins->ySo}:∀{l:List Ins} {n:Nat},(yGd f n l).length=l.length
 |[],_=>rfl
 |x::l,n=>by simp[yGd,yBb]
def ysr(hN:g.N=N){id:Nat}{rs:List ySo}{K:St->Prop}{Q:Exit->Act->World->Prop}{cf:List Nat}(hc:yDm cf P N ops=some rs)(h:Repr g s a w blk)(hw:wpE P 0 rs [] s K)
 (hQ:∀s' a' w' blk',K s'->Repr g s' a' w' blk'->Q .normal a' w'):(Code.region id ops true).wp P Q a w:=by
 unfold yDm at hc;split at hc
 case h_2=>cases hc
 rename_i is hci;simp only at hc;split at hc
 case isFalse=>cases hc
 rename_i hif;injection hc with hc
 simp only[zad]at hif;obtain⟨⟨⟨⟨hmix,hoks⟩,hback⟩,hpairs⟩,hnotes⟩:=hif;rw[hc]at hoks hpairs hnotes;obtain⟨hlen,hget⟩:=ycA hci;have hrl:rs.length=ops.size:=by rw[<-hc];simp[mkR,yBb,hlen]
 have hR:ySC P N ops rs (yDk [] ops.toList):=by
  refine⟨hrl,λj o ho=>?_,λj r hr=>zaf.1 hoks r (zac hr),λj o ho e he hb=>?_,λi j x y hij hx hy=>?_⟩
  .obtain⟨i,hi,hci⟩:=hget j o (by rw[zcn];exact ho);obtain⟨r,hr,hri⟩:=yA9 (f:=_) (n:=0) hi;exact⟨r,by rw[<-hc];exact hr,by rw[hri];exact hci⟩
  .unfold yxt at hback;have hj:j<ops.toList.length:=by simpa using(zaJ.1 ho).1
   have:=zaf.1 hback j (zaN.2 hj);rw[zcn,ho]at this;simp only[zca,zbr,zbb,decide_eq_true_eq]at this;rcases this e he with h1|h1
   .rw[hb]at h1;cases h1
   .exact h1
  .unfold yDb at hpairs;have:=zaf.1 hpairs j (zaN.2 (zaa.1 hy).1);rw[hy]at this;have:=zaf.1 this i (zaN.2 hij);rw[hx]at this;simp only[zbr]at this;rcases this with h1|h1
   .exact .inl h1
   .split at h1
    .rename_i e;exact .inr (.inl e)
    .rename_i e;simp only[zad,zdm,decide_eq_true_eq]at h1;exact .inr (.inr ⟨e,h1⟩)
    .cases h1
 have hnote:∀(j:Nat) (y:ySo),rs[j]?=some y->∀i,i∈y.chk->i<j/\∃x,rs[i]?=some x/\x.note=true:=by
  intro j y hy i hi;unfold yC6 at hnotes;have:=zaf.1 hnotes j (zaN.2 (zaa.1 hy).1);rw[hy]at this;have:=zaf.1 this i hi;simp only[zad,decide_eq_true_eq]at this;refine⟨this.1,?_⟩;have h2:=this.2;split at h2
  .exact⟨_,‹_›,h2⟩
  .cases h2
 have h1:Repr g s a {w with drawn:=w.drawn+1} blk:=h.drew;obtain⟨lab,sf,_,hK,hrun,hchk⟩:=trace hR hnote hN rs.length 0 [] s a _ blk (λ_=>([],true)) (by omega) (λi x hi=>absurd hi (by omega)) h1 hw;refine wp_region_any hmix ?_
 have hlist:(List.range ops.size).filter (λj=>!(Array.replicate ops.size false).getD j true)=List.range ops.size:=by
  rw[zcN];intro j hj;have hlt:=zaN.1 hj;rw[zan];simp[hlt]
 refine yG6 hR (yux ops.toList ops.toList [] rfl (λj i hb=>by simp at hb)) hN (λj r hr=>hchk j r (by omega) hr) (λa' w' blk' hr=>hQ _ a' w' blk' hK hr) ops.size (Array.replicate ops.size false) s a _ blk (by simp) ?_ h1 ?_ (by rw[hlist,zcY])
 .intro j o hj hl;exfalso;have hlt:j<ops.size:=(zaJ.1 hj).1;rw[zan]at hl;simp[hlt]at hl
 .rw[hlist,zdT,<-hrl];exact hrun
end
end Go.Proofs.YtdadkiofenhnbaaGreat
namespace Go.Proofs.YtdadkiofenhnbaaGreat
open Go.RowKit
def lift(g:ySm)(Q:Ex->St->Prop):Exit->Act->World->Prop
 | .normal,a,w=>∃s blk,Q .normal s/\Repr g s a w blk
 | .exit id,a,w=>∃s blk,Q (.exit id) s/\Repr g s a w blk
 | .ret,a,w=>∃s blk,Q .ret s/\Repr g s a w blk
 |_,_,_=>False
def ynw(P:Program)(N:Nat)(c:SC)(s:St)(Q:Ex->St->Prop):Prop:=
 ∀g,g.N=N->∀fl code,ydT fl P N code=some c->∀a w blk,Repr g s a w blk->(Code.loop code).wp P (lift g Q) a w
def wpS(P:Program)(N:Nat):SC->St->(Ex->St->Prop)->Prop
 | .skip,s,Q=>Q .normal s
 | .reg l,s,Q=>wpI P l s (Q .normal)
 | .regq l,s,Q=>wpQ P l s (Q .normal)
 | .rege l,s,Q=>wpE P 0 l [] s (Q .normal)
 | .seq a b,s,Q=>wpS P N a s (Ex.then (λ_ s'=>wpS P N b s' Q) Q)
 | .cond x a b,s,Q=>yl6 (s.ev x) (wpS P N a s Q) (wpS P N b s Q)
 | .block id c,s,Q=>wpS P N c s (Ex.inBlock id Q)
 | .loop c,s,Q=>ynw P N c s Q
 | .exit id,s,Q=>Q (.exit id) s
 | .ret,s,Q=>Q .ret s
def ygd{P:Program}{g:ySm}{N:Nat}{fl:Option (List Nat)}(hN:g.N=N):∀{code:Code} {c:SC} {s:St} {Q:Ex->St->Prop} {a:Act} {w:World} {blk:Lay},
 ydT fl P N code=some c->wpS P N c s Q->Repr g s a w blk->code.wp P (lift g Q) a w:=by
 intro code
 induction code with
 |skip=>intro c s Q a w blk hc hw h;cases hc;exact wp_skip ⟨s,blk,hw,h⟩
 | region id ops draw=>
  intro c s Q a w blk hc hw h;simp only[ydT]at hc;split at hc
  .rename_i hd;subst hd;split at hc
   .split at hc
    .rename_i l hl;cases hc;exact ysr hN hl h hw λs' a' w' blk' k r=>⟨s',blk',k,r⟩
    .simp only[zam]at hc;obtain⟨l,hl,rfl⟩:=hc;exact ytH hN hl h hw λs' a' w' blk' k r=>⟨s',blk',k,r⟩
   .split at hc
    .rename_i l hl;cases hc;exact ytH hN hl h hw λs' a' w' blk' k r=>⟨s',blk',k,r⟩
    .simp only[zam]at hc;obtain⟨l,hl,rfl⟩:=hc;exact ysr hN hl h hw λs' a' w' blk' k r=>⟨s',blk',k,r⟩
  .rename_i hd;simp only[zam]at hc;obtain⟨l,hl,rfl⟩:=hc;have e:draw=false:=by grind
   subst e;exact wp_region_list (yxd hN hl h hw λs' blk' a' w' k r=>⟨s',blk',k,r⟩)
 | seq x y ihx ihy=>
  intro c s Q a w blk hc hw h;simp only[ydT]at hc;split at hc
  .rename_i cx cy h1 h2;cases hc;refine wp_seq (Code.wp_mono ?_ (ihx h1 hw h));intro e a' w' hl;cases e with
   |normal=>obtain⟨s',blk',k,r⟩:=hl;exact ihy h2 k r
   |exit id=>exact hl
   |ret=>exact hl
   |goto l=>exact hl
   |panic ch=>exact hl
   |outgrown=>exact hl
  grind
 | cond x t e iht ihe=>
  intro c s Q a w blk hc hw h;simp only[ydT]at hc;split at hc
  .rename_i cx' ct ce h1 h2 h3;cases hc;simp only[wpS]at hw;have hx:=h.ev h1;unfold yl6 at hw;split at hw
   .rename_i v hv;rw[hv]at hx;refine wp_cond (t:=v) hx.bool ?_
    grind
   grind
  grind
 | block id body ih=>
  intro c s Q a w blk hc hw h;simp only[ydT,zam]at hc;obtain⟨cb,hb,rfl⟩:=hc;refine wp_block (Code.wp_mono ?_ (ih hb hw h));intro e a' w' hl;cases e with
  |normal=>exact hl
  |exit id'=>
   obtain⟨s',blk',k,r⟩:=hl;simp only[Exit.inBlock];simp only[Ex.inBlock]at k;split
   .rename_i e;rw[if_pos e]at k;exact⟨s',blk',k,r⟩
   .rename_i e;rw[if_neg e]at k;exact⟨s',blk',k,r⟩
  |ret=>exact hl
  |goto l=>exact hl
  |panic ch=>exact hl
  |outgrown=>exact hl
 |loop body ih=>
  intro c s Q a w blk hc hw h;simp only[ydT,zam]at hc;obtain⟨cb,hb,rfl⟩:=hc;exact hw g hN fl body hb a w blk h
 |exit id=>intro c s Q a w blk hc hw h;cases hc;exact wp_exit ⟨s,blk,hw,h⟩
 |ret=>intro c s Q a w blk hc hw h;cases hc;exact wp_ret ⟨s,blk,hw,h⟩
 |rangeFunc f ps x y=>intro c s Q a w blk hc;cases hc
 |scope b=>intro c s Q a w blk hc;cases hc
 |label l=>intro c s Q a w blk hc;cases hc
 |goto l=>intro c s Q a w blk hc;cases hc
 |refuse wy=>intro c s Q a w blk hc;cases hc
def St.le(s s':St):Prop:=∀(g:ySm) (a:Act) (w:World) (blk:Lay),Repr g s a w blk->∃blk',Repr g s' a w blk'
def St.le_refl(s:St):s.le s:=λ_ _ _ blk h=>⟨blk,h⟩
def qA{P:Program}{N:Nat}{c:SC}{s:St}{Q:Ex->St->Prop}{ι:Type}(I:ι->Prop)(S:ι->St)(μ:ι->Nat)(i0:ι)(h0:I i0)(hs:s.le (S i0))
 (round:∀i,I i->wpS P N c (S i) (Ex.then (λ_ s'=>∃j,I j/\μ j<μ i/\s'.le (S j)) Q)):ynw P N c s Q:=by
 intro g hN fl code hc a w blk h b k cs
 have key:∀n i,μ i=n->I i->∀a w blk,Repr g (S i) a w blk->
  ∃e a' w',lift g Q e a' w'/\Arrives P (lone (b.at a (.code code::.inLoop code::k)) cs w) b k cs e a' w':=by
  intro n
  induction n using Nat.strongRecOn with
  | _ n ih=>
   intro i hn hI a w blk h;obtain⟨e,a1,w1,hq,harr⟩:=ygd hN hc (round i hI) h b (.inLoop code::k) cs;cases e with
   |normal=>
    obtain⟨s1,blk1,⟨j,hj,hlt,hle⟩,r1⟩:=hq;obtain⟨blk2,r2⟩:=hle g a1 w1 blk1 r1;obtain⟨e2,a2,w2,hq2,harr2⟩:=ih (μ j) (hn▸hlt) j rfl hj a1 w1 blk2 r2;exact⟨e2,a2,w2,hq2,.of_steps (Steps.trans harr (.one step_inLoop)) harr2⟩
   |exit id=>exact⟨.exit id,a1,w1,hq,.pass (x:=.inLoop code) rfl (λ_ _=>.inl (by simp)) harr⟩
   |ret=>exact⟨.ret,a1,w1,hq,.pass (x:=.inLoop code) rfl (λ_ _=>.inl (by simp)) harr⟩
   |goto l=>exact hq.elim
   |panic ch=>exact hq.elim
   |outgrown=>exact hq.elim
 obtain⟨blk1,h1⟩:=hs g a w blk h;obtain⟨e,a',w',hq,harr⟩:=key _ i0 rfl h0 a w blk1 h1;exact⟨e,a',w',hq,.of_steps (.one step_loop) harr⟩
def AV.yox(ids:List Nat):AV->Bool
 | .box i _| .row i _ _ _| .own i _ _| .cut i _ _ _| .mpr i=>ids.contains i
 | .sub _ _ _ _ _ _| .yak _ _ _ _ _ _ _=>false
 |_=>true
def AV.ye9(ids:List Nat):AV->Bool
 | .agg l| .fn _ l=>l.all (AV.yox ids)
 | .tup _=>false
 |x=>x.yox ids
def Obj.ye9(ids:List Nat):Obj->Bool
 | .box l=>l.all (AV.yox ids)
 |_=>true
def Obj.leO:Obj->Obj->Prop
 | .row k rows,.tr k' _ rows'=>k=k'/\rows=rows'
 | .tr k _ rows,.tr k' _ rows'=>k=k'/\rows=rows'
 |o,o'=>o=o'
theorem Obj.yt4{o o':Obj}(h:o.leO o'):o'.nO=o.nO:=by
 unfold Obj.leO at h;split at h
 .obtain⟨rfl,rfl⟩:=h;rfl
 .obtain⟨rfl,rfl⟩:=h;rfl
 grind
theorem Obj.ypU{o o':Obj}(h:o.leO o'):o=o'\/(∃k rows v,o=.row k rows/\o'=.tr k v rows)\/(∃k v v' rows,o=.tr k v rows/\o'=.tr k v' rows):=by
 cases o<;>cases o'<;>first
  |exact .inl h
  |(obtain⟨rfl,rfl⟩:=h;exact .inr (.inl ⟨_,_,_,rfl,rfl⟩))
  |(obtain⟨rfl,rfl⟩:=h;exact .inr (.inr ⟨_,_,_,_,rfl,rfl⟩))
def Obj.yH2{l:List AV}{o':Obj}(h:(Obj.box l).leO o'):o'=.box l:=by
 grind [Obj.ypU]
def Obj.yJ6{l:List (Int×Int)}{o':Obj}(h:(Obj.mp l).leO o'):o'=.mp l:=by
 grind [Obj.ypU]
theorem Obj.yFo{o o':Obj}(h:o.leO o')(hn:o'≠.none):o≠.none:=by
 grind [Obj.leO]
section
variable {g:ySm} {s s':St} {a:Act} {w:World} {blk:Nat->Option Nat}
theorem RV1.sub{G G':Nat->Prop}{O O':Nat->Obj}{ids:List Nat}{v:Value}{x:AV}(hG:∀b,G b->G' b)(hO:∀id,id∈ids->(O id).leO (O' id))(h:RV1 w G O blk v x)(hr:x.yox ids=true):RV1 w G' O' blk v x:=by
 cases x with
 |any=>trivial
 |und=>exact h
 |c x=>exact Rd.mono h hG (λ_ _ _ h=>h)
 |nil k=>exact h
 |clip k rows=>obtain⟨a,n,e,hr⟩:=h;exact⟨a,n,e,hr.mono hG (λ_ _ _ h=>h)⟩
 |box id off=>
  obtain⟨b,cells,ho,r⟩:=h;have:=hO id (by grind [AV.yox]);rw[ho]at this;exact⟨b,cells,Obj.yH2 this,r⟩
 |gl b o=>exact⟨hG _ h.1,h.2⟩
 |mpr id=>
  obtain⟨b,kvs,ho,r⟩:=h;have:=hO id (by grind [AV.yox]);rw[ho]at this;exact⟨b,kvs,Obj.yJ6 this,r⟩
 |row id k i off=>
  obtain⟨b,m,ho,r⟩:=h;exact⟨b,m,by grind [Obj.yt4,AV.yox],r⟩
 |elt cs=>
  obtain⟨ad,e,hc⟩:=h;exact⟨ad,e,λj c hj=>let⟨hg,u,hu,hr⟩:=hc j c hj;⟨hG _ hg,u,hu,hr.mono hG (λ_ _ _ h=>h)⟩⟩
 |own id k n=>
  obtain⟨m,ho,r⟩:=h;exact⟨m,by grind [Obj.yt4,AV.yox],r⟩
 |cut id k lo n=>
  obtain⟨m,A,c,ho,r⟩:=h;exact⟨m,A,c,by grind [Obj.yt4,AV.yox],r⟩
 |sub id ver i j k n=>grind [AV.yox]
 |yak id ver i j k i' off=>grind [AV.yox]
 |agg l=>exact h
 |tup l=>exact h
 |fn f l=>exact h
theorem RV.sub{G G':Nat->Prop}{O O':Nat->Obj}{ids:List Nat}{v:Value}{x:AV}(hG:∀b,G b->G' b)(hO:∀id,id∈ids->(O id).leO (O' id))(h:RV w G O blk v x)(hr:x.ye9 ids=true):RV w G' O' blk v x:=by
 cases x
 case tup l=>grind [AV.ye9]
 case agg l=>
  obtain⟨arr,e,hs,hx⟩:=h;refine⟨arr,e,hs,λj x hj=>?_⟩;obtain⟨u,hu,hru⟩:=hx j x hj;exact⟨u,hu,RV1.sub hG hO hru (zaf.1 hr x (zac hj))⟩
 case fn f l=>
  obtain⟨arr,e,hs,hx⟩:=h;refine⟨arr,e,hs,λj x hj=>?_⟩;obtain⟨u,hu,hru⟩:=hx j x hj;exact⟨u,hu,RV1.sub hG hO hru (zaf.1 hr x (zac hj))⟩
 all_goals grind [RV1.sub,RV,RV2,AV.ye9]
theorem yqF{α:Type}(d:α)(f:Nat->α):∀(l:List (Nat×α)),(∀p∈l,f p.1=p.2)->∀t,look d l t=d\/(f t=look d l t/\(t,look d l t)∈l)
 |[],_,_=>.inl rfl
 |(k,v)::l,h,t=>by
  rw[yk7];split
  .grind
  .rcases yqF d f l (λp hp=>h p (by grind)) t with e|⟨e,hm⟩<;>grind
theorem yn7{α:Type}(d:α)(f:Nat->α)(R:α->α->Prop):∀(l:List (Nat×α)),(∀p∈l,R (f p.1) p.2)->∀t,look d l t=d\/(R (f t) (look d l t)/\(t,look d l t)∈l)
 |[],_,_=>.inl rfl
 |(k,v)::l,h,t=>by
  rw[yk7];split
  .grind
  .rcases yn7 d f R l (λp hp=>h p (by grind)) t with e|⟨e,hm⟩<;>grind
def xC(L:List (Nat×AV))(O:List (Nat×Obj)):St:=⟨look .any L,look .none O⟩
theorem aB{L:List (Nat×AV)}{OL:List (Nat×Obj)}(he:∀p∈L,s.env p.1=p.2)(ho:∀p∈OL,(s.yRU p.1).leO p.2)
 (hr:(L.all λp=>p.2.ye9 (OL.map (·.1)))=true) (hro:(OL.all λp=>p.2.ye9 (OL.map (·.1)))=true):s.le (xC L OL):=by
 intro g a w blk h;have hO2:∀id,look .none OL id=.none\/((s.yRU id).leO (look .none OL id)/\(id,look .none OL id)∈OL):=yn7 Obj.none s.yRU Obj.leO OL ho
 have hO:∀id,id∈OL.map (·.1)->(s.yRU id).leO (look .none OL id):=by
  intro id hid;obtain⟨p,hp,rfl⟩:=zaP.1 hid
  have:∀(l:List (Nat×Obj)),(∀p∈l,(s.yRU p.1).leO p.2)->∀p∈l,(s.yRU p.1).leO (look .none l p.1):=by
   intro l
   induction l with
   |nil=>simp
   |cons q l ih=>
    grind [yk7]
  grind
 have hlv:∀id,look .none OL id≠.none->s.yRU id≠.none:=by
  grind [Obj.yFo]
 have hG:∀b,Good g s.yRU blk w b->Good g (look .none OL) blk w b:=λb hb=>⟨hb.1,λid hid=>hb.2 id (hlv id hid)⟩;refine⟨blk,h.size,h.small,h.defers,h.below,h.g0,h.f0,h.g0f,λt=>?_,λid=>?_,λi b hi hb=>h.new i b (hlv i hi) hb,λi j b hi hj=>h.inj i j b (hlv i hi) (hlv j hj),λi b hi=>h.apart i b (hlv i hi)⟩
 .show RV w (Good g (look .none OL) blk w) (look .none OL) blk _ (look .any L t)
  rcases yqF AV.any s.env L he t with e|⟨e,hm⟩
  .rw[e];trivial
  .rw[<-e];exact RV.sub hG hO (h.env t) (by grind)
 .show jU w (Good g (look .none OL) blk w) (look .none OL) blk _ _ (look .none OL id)
  rcases hO2 id with e|⟨e,hm⟩
  .rw[e];trivial
  .have hob:=h.yRU id;have hrr:=zaf.1 hro _ hm;revert e hob hrr;generalize look .none OL id=ob;intro e hob hrr;rcases Obj.ypU e with e|⟨k,rows,v',heq,rfl⟩|⟨k,v,v',rows,heq,rfl⟩
   .rw[e]at hob;cases ob with
    |none=>trivial
    |box cells=>
     obtain⟨q,arr,e,e1,e2,e3,e4⟩:=hob;exact⟨q,arr,e,e1,e2,e3,λj x hx=>let⟨u,hu,hru⟩:=e4 j x hx;⟨u,hu,RV1.sub hG hO hru (zaf.1 hrr x (zac hx))⟩⟩
    |mp kvs=>exact hob
    |row k rows=>
     rcases hob with hob|⟨q,arr,e,e1,e2,e3,e4,e5⟩
     .exact .inl hob
     .exact .inr ⟨q,arr,e,e1,e2,e3,e4,λi r j c hr hc=>let⟨u,hu,hru⟩:=e5 i r j c hr hc;⟨u,hu,hru.mono hG (λ_ _ _ h=>h)⟩⟩
    |tr k v rows=>
     rcases hob with hob|⟨q,arr,e,e1,e2,e3,e4,e5⟩
     .exact .inl hob
     .exact .inr ⟨q,arr,e,e1,e2,e3,e4,e5.mono hG (λ_ _ _ h=>h) (λ_ h=>h) (λ_ _=>rfl)⟩
   .rw[heq]at hob;rcases hob with hob|⟨q,arr,e,e1,e2,e3,e4,e5⟩
    .exact .inl hob
    .refine .inr ⟨q,arr,e,e1,e2,e3,e4,λi j=>(arr[i*k+j]?).getD undef,λ_ _=>noF,λ_ _ _ h=>h.elim,λ_ _ _ _ _ h=>h.elim,λi r hr j c hc=>?_,λi r hr j c hc=>?_⟩
     .grind
     .obtain⟨u,hu,hru⟩:=e5 i r j c hr hc;dsimp only;rw[hu];exact .sh (hru.mono hG (λ_ _ _ h=>h))
   .rw[heq]at hob;rcases hob with hob|⟨q,arr,e,e1,e2,e3,e4,e5⟩
    .exact .inl hob
    .exact .inr ⟨q,arr,e,e1,e2,e3,e4,e5.mono hG (λ_ _ _ h=>h) (λ_ h=>h) (λ_ _=>rfl)⟩
end
def ys5{P:Program}{N:Nat}{c:SC}{s:St}{Q:Ex->St->Prop}(fl:Bool)(t k:Nat){k0:Nat}(ht:t<jV)(h1:s.env t=.nil k0)(h2:(s.ob t).isNone=true)(h:ynw P N c ⟨upd t (.own t k 0) s.env,upd t (mkO fl k []) s.yRU⟩ Q):ynw P N c s Q:=by
 intro g hN fl2 code hc a w blk hr;refine h g hN fl2 code hc a w _ (?_:Repr g _ a w (blk.upd t none noF));have hv:=hr.virt (d:=t) (k:=k) fl (yaa h2);refine⟨hv.size,hv.small,hv.defers,hv.below,hv.g0,hv.f0,hv.g0f,λt'=>?_,hv.yRU,hv.new,hv.inj,hv.apart⟩
 show RV _ _ _ _ _ (upd t (.own t k 0) s.env t')
 rw[jG];split
 .rename_i e;subst e;have:=hr.env t';rw[h1]at this;exact⟨0,by simp[upd,ys3],Nat.le_refl _,.inl ⟨by grind [Lay.eH],rfl,none,this⟩⟩
 .exact hv.env t'
def jX{P:Program}{N:Nat}{c:SC}{s:St}{Q:Ex->St->Prop}(t k:Nat){k0:Nat}(h1:s.env t=.nil k0)(h2:(s.ob t).isNone=true)(ht:t<jV)(h:ynw P N c ⟨upd t (.own t k 0) s.env,upd t (.row k []) s.yRU⟩ Q):ynw P N c s Q:=
 ys5 true t k ht h1 h2 h
def ydE{P:Program}{N:Nat}{c:SC}{s:St}{Q:Ex->St->Prop}(t k:Nat){k0:Nat}(h1:s.env t=.nil k0)(h2:(s.ob t).isNone=true)(ht:t<jV)(h:ynw P N c ⟨upd t (.own t k 0) s.env,upd t (.tr k 0 []) s.yRU⟩ Q):ynw P N c s Q:=
 ys5 false t k ht h1 h2 h
end Go.Proofs.YtdadkiofenhnbaaGreat
namespace Go.Proofs.YtdadkiofenhnbaaGreat
open Go.RowKit
inductive RS where
 |t (n:Nat)
 |cl (n k:Nat)
 |c1 (n:Nat)
def yhu(P:Program):ResultVar->Option RS
 | .tmp t=>if t<jV then some (.t t)else none
 | .cell t ty=>if t<jV then match yuy P ty,ycM P ty with
  |some true,some k=>some (.cl t k)
  |some false,some _=>some (.c1 t)
  |_,_=>none
  else none
def ybo(P:Program):List ResultVar->Option (List RS)
 |[]=>some []
 |r::l=>match yhu P r,ybo P l with
  |some x,some xs=>some (x::xs)
  |_,_=>none
def ydN(s:St)(r:RS)(y:AV):Prop:=
 match r with
 | .t n=>nZ s (s.env n) y
 | .cl n k=>match s.env n with
  | .box id 0=>match s.ob id with
   | .box cells=>cells.length=k/\nZ s (.agg cells) y
   |_=>False
  |_=>False
 | .c1 n=>match s.env n with
  | .box id 0=>match s.ob id with
   | .box [x]=>nZ s x y
   |_=>False
  |_=>False
def yjv(s:St):List RS->List AV->Prop
 |[],[]=>True
 |r::l,y::l'=>ydN s r y/\yjv s l l'
 |_,_=>False
def ybG(s:St)(rs:List RS)(res:AV):Prop:=
 match rs with
 |[r]=>ydN s r res
 |rs=>∃ys,res=.tup ys/\yjv s rs ys
def yhC(args:List AV):St:=⟨λt=>(args[t]?).getD .any,λ_=>.none⟩
structure Has(P:Program)(f N:Nat)(c:SC)(rs:List RS):Prop where
 small:N<=jV
 ok:∃fn code,P.funcs[f]?=some fn/\fn.body=some code/\fn.ntmps=N/\(∃fl,ydT fl P N code=some c)/\ybo P fn.results.toList=some rs
section
variable {P:Program} {g:ySm} {s:St} {a:Act} {w:World} {blk:Lay}
theorem ylR{t:TypeId}(ht:yuy P t=some false){ad:Addr}{u:Value}(hu:w.cell? ad=some u):(loadVar t ad).run P w=.ok u w:=by
 have:=ynA ht hu
 grind [Instr.loadAt,Instr.sureAddr]
theorem ymR{t:TypeId}{n:Nat}(ht:yuy P t=some true)(hn:ycM P t=some n){ad:Addr}{us:List Value}(hl:us.length=n)(hu:∀j u,us[j]?=some u->w.cell? (ad.add j)=some u):
 (loadVar t ad).run P w=.ok (.agg us.toArray) w:=by
 have:=yoK ht hn hl hu
 grind [Instr.loadAt,Instr.sureAddr]
def yfx(tmps:Array Value):ResultVar->Sem Value
 | .tmp t=>pure (tmps.getD t undef)
 | .cell a t=>do loadVar t (<-asAddr (tmps.getD a undef))
theorem yDI(h:Repr g s a w blk){r:ResultVar}{q:RS}{y:AV}(hq:yhu P r=some q)(hy:ydN s q y):∃v,(yfx a.tmps r).run P w=.ok v w/\RV2 w (All g w) noO noB v y:=by
 cases r with
 | tmp t=>
  simp only[yhu]at hq;split at hq
  .rename_i hlt;cases hq;exact⟨_,rfl,yoq h (λ_ h=>h) (h.at_ hlt) hy⟩
  grind
 | cell t ty=>
  simp only[yhu]at hq;split at hq
  case isFalse=>grind
  rename_i hlt;have hen:=h.at_ hlt;split at hq
  .rename_i k h1 h2;cases hq;simp only[ydN]at hy;split at hy
   .rename_i id hid;rw[hid]at hen;obtain⟨b,cells',hO',hb,e1⟩:=hen;split at hy
    .rename_i cells hO;obtain⟨hk,hy⟩:=hy;obtain⟨arr,e,b1,b2,b3⟩:=h.box hO hb;have hr:=ymR (P:=P) (w:=w) h1 h2 (ad:=⟨b,0,none⟩) (us:=arr.toList) (by grind) (λj u hu=>by grind [add_lit,cell_of]);refine⟨.agg arr,?_,yoq h (λ_ h=>h) (x:=.agg cells) ⟨arr,rfl,b2,b3⟩ hy⟩
     simp_all [yfx,asAddr]
    grind
   grind
  .rename_i k h1 h2;cases hq;simp only[ydN]at hy;split at hy
   .rename_i id hid;rw[hid]at hen;obtain⟨b,cells',hO',hb,e1⟩:=hen;split at hy
    .rename_i x hO;obtain⟨arr,e,b1,b2,b3⟩:=h.box hO hb;obtain⟨u,hu,hru⟩:=b3 0 x rfl;have hr:=ylR (P:=P) (w:=w) h1 (ad:=⟨b,0,none⟩) (u:=u) (by grind [cell_of]);refine⟨u,?_,yoq h (λ_ h=>h) (.of1 hru) hy⟩
     grind [yfx,asAddr]
    grind
   grind
  grind
theorem ypW(h:Repr g s a w blk):∀{l:List ResultVar} {rs:List RS} {ys:List AV},ybo P l=some rs->yjv s rs ys->
 ∃vs:List Value,(l.mapM (yfx a.tmps)).run P w=.ok vs w/\vs.length=ys.length/\vs.length=rs.length/\∀(j:Nat) (y:AV),ys[j]?=some y->∃u,vs[j]?=some u/\RV2 w (All g w) noO noB u y
 |[],rs,ys,hc,hy=>by
  cases hc;cases ys with
  |nil=>simp
  |cons y ys=>exact hy.elim
 | r::l,rs,ys,hc,hy=>by
  simp only[ybo]at hc;split at hc
  .rename_i q qs h1 h2;cases hc;cases ys with
   |nil=>exact hy.elim
   |cons y ys=>
    obtain⟨v,hv,hr⟩:=yDI h h1 hy.1;obtain⟨vs,e1,e2,e3,e4⟩:=ypW h h2 hy.2;refine⟨v::vs,by simp_all,by grind,by grind,λj z hj=>?_⟩
    grind
  grind
theorem yfd{fn:Func}{tmps:Array Value}{vs:List Value}(h:(fn.results.toList.mapM (yfx tmps)).run P w=.ok vs w):
 (results fn tmps).run P w=.ok (if h:vs.toArray.size=1 then vs.toArray[0]else .tuple vs.toArray) w:=by
 have e:(results fn tmps)=(do let vs<-fn.results.mapM (yfx tmps);pure (if h:vs.size=1 then vs[0]else .tuple vs)):=by
  rfl
 simp_all [Array.mapM_eq_mapM_toList]
theorem yyI(h:Repr g s a w blk){fn:Func}{rs:List RS}{res:AV}(hc:ybo P fn.results.toList=some rs)(hy:ybG s rs res):∃v,(results fn a.tmps).run P w=.ok v w/\RV w (All g w) noO noB v res:=by
 have one:∀r,rs=[r]->ydN s r res->∃v,(results fn a.tmps).run P w=.ok v w/\RV w (All g w) noO noB v res:=by
  intro r e hr;subst e;obtain⟨vs,e1,e2,e3,e4⟩:=ypW h (ys:=[res]) hc ⟨hr,trivial⟩;obtain⟨u,hu,hru⟩:=e4 0 res rfl
  simp_all [yfd,yhR]
 unfold ybG at hy;split at hy
 .grind
 .rename_i hne;obtain⟨ys,rfl,hy⟩:=hy;obtain⟨vs,e1,e2,e3,e4⟩:=ypW h hc hy
  have hl:vs.toArray.size≠1:=by
   intro e;have:rs.length=1:=by grind
   match rs,this,hne with
   |[r],_,hne=>exact hne r rfl
  refine⟨_,yfd e1,?_⟩;rw[dif_neg hl];exact⟨vs.toArray,rfl,by omega,λj y hj=>by grind⟩
end
theorem yDe{w:World}{G:Nat->Prop}{O:Nat->Obj}{blk:Nat->Option Nat}{v:Value}{x:AV}(h:RV w G O blk v x):x.wf:=by
 have one:∀{v:Value} {x:AV},RV1 w G O blk v x->x.wf1:=by
  intro v x h;cases x with
  |elt cs=>
   obtain⟨ad,_,hc⟩:=h;intro z hz;obtain⟨j,hj⟩:=zat hz;obtain⟨_,u,_,hr⟩:=hc j z hj;exact hr.wf
  |c x=>exact Rd.wf h
  |_=>exact trivial
 cases x
 case agg l=>
  obtain⟨arr,e,hs,hl⟩:=h;intro y hy
  grind [List.getElem?_of_mem]
 case fn f l=>
  obtain⟨arr,e,hs,hl⟩:=h;intro y hy
  grind [List.getElem?_of_mem]
 case tup l=>trivial
 all_goals(simp only[RV,RV2]at h;exact one h)
def ygQ:∀(l:List AV),(∀x,x∈l->x.wf)->ycR l
 |[],_=>trivial
 |x::l,h=>⟨h x (by simp),ygQ l λy hy=>h y (by grind)⟩
def yF5{w:World}{G G':Nat->Prop}{v:Value}{x:AV}(hG:∀b,G b->G' b)(h:RV w G noO noB v x):RV w G' noO noB v x:=yey (O:=noO) (bl:=noB) hG h
def yLC{w w':World}{G:Nat->Prop}{N:Nat}{vs:Array Value}{v:Value}{x:AV}(h:RV w' (All ⟨w,G,noF,N,vs⟩ w') noO noB v x):RV w' (λb=>G b\/(w.heap.size<=b/\b<w'.heap.size)) noO noB v x:=
 yF5 (λb hb=>by
  rcases hb with(hb|hb)|hb
  .grind
  .exact hb.elim
  grind) h
def yDq{P:Program}{f N:Nat}{c:SC}{rs:List RS}{args:List AV}{res:AV}(hf:Has P f N c rs)(hN:args.length<=N)
 (H:ycR args->wpS P N c (yhC args) (λe s=>match e with| .exit _=>False|_=>ybG s rs res)):qB P f args res:=by
 obtain⟨fn,code,h1,h2,h3,⟨fl,h4⟩,h5⟩:=hf.ok;intro w G hG vs hvs hv
 have hwf:ycR args:=ygQ args λx hx=>by
  grind [List.getElem?_of_mem,yDe]
 refine calls_of_wp h1 h2 ?_
 let g:ySm:=⟨w,G,noF,N,#[]⟩
 let L0:Lay:=⟨noB,λ_=>noF⟩
 have hgood:∀b,G b->Good g noO L0 w b:=λb hb=>⟨.inl (.inl hb),λid hid=>absurd rfl hid⟩
 have hinit:Repr g (yhC args) {tmps:=vs++Array.replicate (fn.ntmps-vs.size) undef,defers:=[]} w L0:=by
  refine⟨by grind,hf.small,rfl,Off.refl _ _,hG,λb hb=>hb.elim,λb hb h=>h.elim,λt=>?_,λid=>trivial,λid b hid=>absurd rfl hid,λi j b hi=>absurd rfl hi,λi b hi=>absurd rfl hi⟩
  show RV _ _ _ _ _ ((args[t]?).getD .any)
  cases ht:args[t]? with
  |none=>trivial
  | some x=>
   obtain⟨u,hu,hr⟩:=hv t x ht;have hlt:t<vs.size:=(zaJ.1 hu).1;have hsm:=hf.small
   have:g.val {tmps:=vs++Array.replicate (fn.ntmps-vs.size) undef,defers:=[]} t=u:=by
    unfold ySm.val;rw[if_pos (by omega),zan,zbS hlt,hu];rfl
   rw[this];exact yey (O:=noO) hgood hr
 refine Code.wp_mono ?_ (ygd (g:=g) rfl h4 (H hwf) hinit);intro e a' w' hl
 have fin:∀s blk,ybG s rs res->Repr g s a' w' blk->a'.defers=[]/\∃v,(results fn a'.tmps).run P w'=.ok v w'/\(∃v',Ending.returned v=.returned v'/\Below w.heap.size w w'/\RV w' (λb=>G b\/(w.heap.size<=b/\b<w'.heap.size)) noO noB v' res):=by
  intro s blk hr h;obtain⟨v,e1,e2⟩:=yyI h h5 hr;exact⟨h.defers,v,e1,v,rfl,Off.below h.below,yLC e2⟩
 cases e with
 |normal=>obtain⟨s,blk,hr,h⟩:=hl;exact fin s blk hr h
 |exit id=>obtain⟨s,blk,hr,h⟩:=hl;grind
 |ret=>obtain⟨s,blk,hr,h⟩:=hl;exact fin s blk hr h
 |goto l=>exact hl.elim
 |panic ch=>exact hl.elim
 |outgrown=>exact hl.elim
end Go.Proofs.YtdadkiofenhnbaaGreat
