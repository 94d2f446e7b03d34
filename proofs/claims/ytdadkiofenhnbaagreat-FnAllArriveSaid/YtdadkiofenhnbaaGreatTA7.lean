/- The machine of the proof: an abstract run of the code, proved sound. -/
import Derived.Test.YtdadkiofenhnbaaGreatTA4
set_option linter.all false
namespace Go.Proofs.YtdadkiofenhnbaaGreat
open Go.RowKit
def AV.yoE:AV->AV->Prop
 | .c y,.c y'=>y.shr=some y'
 | .agg l,.agg l'=>dO (AV.cs l)=some (AV.cs l')/\l'=(AV.cs l').map .c
 |_,_=>False
def AV.yEj:List AV->List AV->Prop
 |[],[]=>True
 |x::l,y::l'=>x.yoE y/\AV.yEj l l'
 |_,_=>False
def AV.shr:AV->AV->Prop
 | .tup l,.tup l'=>AV.yEj l l'
 |x,y=>x.yoE y
def ybB.yqb{w:World}{G G':Nat->Prop}{v:Value}{x y:AV}{F:Nat->Prop}(h:ybB w G v x F)(hs:x.yoE y)(h1:∀b,G b->G' b)(h2:∀b,F b->G' b):RV2 w G' noO noB v y:=by
 cases x with
 |c c=>
  cases y with
  |c c'=>exact OT.yqb h hs h1 h2
  |_=>exact hs.elim
 | agg l=>
  cases y with
  |agg l'=>
   obtain⟨arr,e,hsz,Fs,a1,a2,a3⟩:=h;obtain⟨e1,e2⟩:=hs;obtain⟨g1,g2⟩:=ygy e1;rw[ybR]at g1;have hl:(AV.cs l').length=l'.length:=ybR l';refine⟨arr,e,by grind [ybR],λj z hj=>?_⟩;rw[e2,zau,zam]at hj;obtain⟨c',hc',rfl⟩:=hj;obtain⟨c,hc,hcc⟩:=g2 j c' hc';have hlt:j<l.length:=by grind [ybR]
   obtain⟨u,c2,e3,hu,ho⟩:=a1 j _ (zab hlt);have:=yyB (l:=l) (j:=j) (c:=c2) (by grind);rw[hc]at this;cases this;exact⟨u,hu,ho.yqb hcc h1 λb hb=>h2 b (a2 j b hb)⟩
  |_=>exact hs.elim
 |_=>exact h.elim
def yAH:∀{l l':List AV},AV.yEj l l'->l'.length=l.length/\∀(j:Nat) (y:AV),l'[j]?=some y->∃x,l[j]?=some x/\x.yoE y
 |[],[],_=>⟨rfl,λj y hj=>by grind⟩
 |x::l,y::l',h=>by
  obtain⟨h1,h2⟩:=yAH h.2;refine⟨by grind,λj z hj=>?_⟩;cases j with
  |zero=>simp at hj;subst hj;exact⟨x,rfl,h.1⟩
  |succ j=>grind
def AOk.yqb{w:World}{G G':Nat->Prop}{v:Value}{x y:AV}{F:Nat->Prop}(h:AOk w G v x F)(hs:x.shr y)(h1:∀b,G b->G' b)(h2:∀b,F b->G' b):RV w G' noO noB v y:=by
 cases x with
 | tup l=>
  cases y with
  |tup l'=>
   obtain⟨arr,e,hsz,Fs,a1,a2,a3⟩:=h;obtain⟨g1,g2⟩:=yAH hs;refine⟨arr,e,by omega,λj z hj=>?_⟩;obtain⟨x,hx,hxz⟩:=g2 j z hj;obtain⟨u,hu,ho⟩:=a1 j x hx;exact⟨u,hu,ho.yqb hxz h1 λb hb=>h2 b (a2 j b hb)⟩
  |_=>exact hs.elim
 | c c=>
  cases y<;>first
   |exact yhR (ybB.yqb (x:=.c c) h hs h1 h2)
   |exact hs.elim
 | agg l=>
  cases y<;>first
   |exact yhR (ybB.yqb (x:=.agg l) h hs h1 h2)
   |exact hs.elim
 |_=>exact h.elim
def nI.pure{P:Program}{f:Nat}{args:List AV}{res y:AV}(h:nI P f args res)(hs:res.shr y):qB P f args y:=by
 intro w G hG vs hvs hv;refine(h w G hG vs hvs hv).mono ?_
 rintro e w' ⟨v,F,rfl,hb,hF,hr⟩
 exact⟨v,rfl,hb,hr.yqb hs (λb hb=>hb.1) λb hb=>.inr (hF b hb)⟩
def yfF(s:St)(x:AV)(c:C):Prop:=
 match x with
 | .c y=>c=y/\y.plain=true
 | .clip k rows=>c=.sl k rows
 | .nil _=>match c with
  | .ow _ rows=>rows=[]
  | .ot _ rows=>rows=[]
  | .sl _ rows=>rows=[]
  |_=>False
 | .own id k n=>match c with
  | .ow k' rows=>match s.ob id with
   | .row k0 rs=>k0=k/\k'=k/\rows=rs.take n
   |_=>False
  | .ot k' rows=>match s.ob id with
   | .row k0 rs=>k0=k/\k'=k/\rows=rs.take n
   | .tr k0 _ rs=>k0=k/\k'=k/\rows=rs.take n
   |_=>False
  | .sl _ rows=>n=0/\rows=[]
  |_=>False
 | .box id 0=>match c with
  | .bx cs=>match s.ob id with
   | .box cells=>cells=cs.map .c/\cs.all C.plain=true
   |_=>False
  |_=>False
 |_=>False
def AV.oid:AV->List Nat
 | .own id _ _=>[id]
 | .box id _=>[id]
 |_=>[]
def AV.yfL:AV->List Nat
 | .agg l=>l.flatMap AV.oid
 |x=>x.oid
def yye(s:St):List AV->List AV->Prop
 |[],[]=>True
 |x::l,y::l'=>(∃c,y=.c c/\yfF s x c)/\yye s l l'
 |_,_=>False
def ygt(s:St)(x y:AV):Prop:=
 match y with
 | .c c=>yfF s x c
 | .agg l'=>match x with
  | .agg l=>yye s l l'
  |_=>False
 |_=>False
def yxx(s:St):List AV->List AV->Prop
 |[],[]=>True
 |x::l,y::l'=>ygt s x y/\yxx s l l'
 |_,_=>False
def yef(s:St):RS->Option AV
 | .t n=>match s.env n with
  | .tup _=>none
  |x=>some x
 | .cl n k=>match s.env n with
  | .box id 0=>match s.ob id with
   | .box cells=>if cells.length=k then some (.agg cells)else none
   |_=>none
  |_=>none
 | .c1 n=>match s.env n with
  | .box id 0=>match s.ob id with
   | .box [x]=>some x
   |_=>none
  |_=>none
def ybW(s:St):List RS->Option (List AV)
 |[]=>some []
 |r::l=>match yef s r,ybW s l with
  |some x,some xs=>some (x::xs)
  |_,_=>none
def yIl(s:St)(res:AV):List AV->Prop
 |[x]=>ygt s x res/\x.yfL.Nodup
 |xs=>∃ys,res=.tup ys/\yxx s xs ys/\(xs.flatMap AV.yfL).Nodup
def ykX(s:St)(rs:List RS)(res:AV):Prop:=
 match ybW s rs with
 |some xs=>yIl s res xs
 |none=>False
section
variable {P:Program} {g:ySm} {s:St} {a:Act} {w:World} {L:Lay}
theorem yLr(h:Repr g s a w L){id k n:Nat}{rows:List (List C)}{v:Value}(hO:s.ob id=.row k rows)(hv:RV1 w (Good g s.yRU L w) s.yRU L v (.own id k n)):
 OT w (Good g s.yRU L w) v (.ot k (rows.take n)) (L.fp id):=by
 obtain⟨_,_,ho⟩:=ykc h hv (c:=.ow k (rows.take n)) (ids:=[id]) (by simp_all);generalize rows.take n=q at ho|-;cases ho with
 |sh h=>cases h
 |@ow0 a k F=>exact .ot0
 |ow vals h1 h2 h3 h4 h5 h6 h7 h8 h9=>
  exact .ot vals (λ_ _=>noF) h1 h2 h3 h4 h5 h6 h7 (λ_ _ _ h=>h.elim) (λ_ _ _ _ _ h=>h.elim) h8 (λi r hr j c hc=>.sh (h9 i r hr j c hc))
theorem yhj(h:Repr g s a w L){v:Value}{x:AV}{c:C}(hv:RV1 w (Good g s.yRU L w) s.yRU L v x)(hp:yfF s x c):
 ∃F,OT w (Good g s.yRU L w) v c F/\∀y,F y->∃i0,i0∈x.oid/\s.yRU i0≠.none/\L.fp i0 y:=by
 have zero:∀{A:Option Addr} {v:Value},v=.slice A 0 0->∀k,Rd w (Good g s.yRU L w) v (.sl k []):=by
  grind [yjq]
 cases x with
 |c x=>obtain⟨rfl,hpl⟩:=hp;exact⟨noF,.sh hv,λy hy=>hy.elim⟩
 |clip k rows=>cases hp;exact⟨noF,.sh (yk8 hv rfl),λy hy=>hy.elim⟩
 |nil k=>
  have e:v=.slice none 0 0:=hv;subst e;cases c<;>first|exact hp.elim|skip
  .rename_i k' rows;have:rows=[]:=hp;subst this;exact⟨noF,.sh yjq,λy hy=>hy.elim⟩
  .rename_i k' rows;have:rows=[]:=hp;subst this;exact⟨noF,.ow0,λy hy=>hy.elim⟩
  .rename_i k' rows;have:rows=[]:=hp;subst this;exact⟨noF,.ot0,λy hy=>hy.elim⟩
 | own id k n=>
  have hl:(s.yRU id)≠.none:=by
   obtain⟨m,ho,_⟩:=hv;intro e;rw[e]at ho;cases ho
  cases c<;>first|exact hp.elim|skip
  .rename_i k' rows;obtain⟨rfl,rfl⟩:=hp;refine⟨noF,.sh ?_,λy hy=>hy.elim⟩;obtain⟨m,ho,hn,hv⟩:=hv;rcases hv with⟨_,_,A0,rfl⟩|⟨b,cap,arr,e,hb,rfl,h1,h2,h3,h4⟩
   .grind
   .exact .sl (λ_ _=>default) rfl h1 h2 (by simp) (by simp) (by simp) (by simp)
  .rename_i k' rows;simp only[yfF]at hp;split at hp
   .rename_i k0 rs hO;obtain⟨rfl,rfl,rfl⟩:=hp;obtain⟨_,_,ho⟩:=ykc h hv (c:=.ow k' (rs.take n)) (ids:=[id]) (by simp_all)
    grind [AV.oid]
   grind
  .rename_i k' rows;simp only[yfF]at hp;split at hp
   .rename_i k0 rs hO;obtain⟨rfl,rfl,rfl⟩:=hp;exact⟨_,yLr h hO hv,λy hy=>⟨id,by simp[AV.oid],hl,hy⟩⟩
   .rename_i k0 ver rs hO;obtain⟨rfl,rfl,rfl⟩:=hp;obtain⟨_,_,ho⟩:=ykc h hv (c:=.ot k' (rs.take n)) (ids:=[id]) (by simp_all)
    grind [AV.oid]
   grind
 | box id off=>
  cases off with
  |succ o=>exact hp.elim
  | zero=>
   cases c<;>first|exact hp.elim|skip
   rename_i cs;simp only[yfF]at hp;split at hp
   .rename_i cells hO;obtain⟨rfl,hpl⟩:=hp;obtain⟨b,cells',hO',hb,rfl⟩:=hv;obtain⟨arr,e,r1,r2,r3⟩:=h.box hO hb;have hl:s.yRU id≠.none:=by grind
    refine⟨L.fp id,.bx (λj=>(arr[j]?).getD default) (λ_=>noF) r1 (by grind) (.inl hb) (λ_ _ h=>h.elim) (λ_ _ _ h=>h.elim) (λj c hc=>?_) (λj c hc=>?_),λy hy=>⟨id,by simp[AV.oid],hl,hy⟩⟩
    .grind
    .obtain⟨u,hu,hr⟩:=r3 j (.c c) (by grind);rw[hu];exact .sh hr
   grind
 |_=>exact hp.elim
theorem yC2(h:Repr g s a w L):∀{l l':List AV} {us:List Value},yye s l l'->
 (∀(j:Nat) (x:AV),l[j]?=some x->∃u,us[j]?=some u/\RV1 w (Good g s.yRU L w) s.yRU L u x)->(l.flatMap AV.oid).Nodup->
 ∃Fs:Nat->Nat->Prop,l'.length=l.length/\(∀(j:Nat) (y:AV),l'[j]?=some y->∃u c,y=.c c/\us[j]?=some u/\OT w (Good g s.yRU L w) u c (Fs j))/\
  (∀j y,Fs j y->∃i0,i0∈l.flatMap AV.oid/\s.yRU i0≠.none/\L.fp i0 y)/\(∀j j' y,Fs j y->Fs j' y->j=j')
 |[],[],us,_,_,_=>⟨λ_=>noF,rfl,λj c hj=>by grind,λ_ _ h=>h.elim,λ_ _ _ h=>h.elim⟩
 | x::l,y::l',us,hp,hv,hnd=>by
  obtain⟨⟨c,rfl,hc⟩,hp2⟩:=hp;obtain⟨u0,hu0,hr0⟩:=hv 0 x rfl;obtain⟨F0,hF0,hF0i⟩:=yhj h hr0 hc;rw[zaU]at hnd;have hnd':=zaY.1 hnd
  obtain⟨Fs,e1,e2,e3,e4⟩:=yC2 h (us:=us.tail) hp2 (λj y hj=>by
   simp_all) hnd'.2.1
  refine⟨λj=>match j with|0=>F0|j+1=>Fs j,by grind,λj y' hj=>?_,λj y hy=>?_,λj j' y hy hy'=>?_⟩
  .grind
  .rw[zaU];cases j with
   |zero=>grind
   |succ j=>grind
  .have cross:∀j,F0 y->Fs j y->False:=by
    intro j q1 q2;obtain⟨i0,m1,m2,m3⟩:=hF0i y q1;obtain⟨i1,n1,n2,n3⟩:=e3 j y q2;have:=h.inj i0 i1 y m2 n2 m3 n3
    grind
   cases j with
   |zero=>cases j' with
    |zero=>rfl
    |succ j'=>grind
   |succ j=>cases j' with
    |zero=>grind
    |succ j'=>grind
def yzV{x:AV}{c:C}(h:yfF s x c):x.lH=true:=by
 cases x<;>first|rfl|exact h.elim
theorem yyo(h:Repr g s a w L){v:Value}{x y:AV}(hv:RVs g s w L v x)(hp:ygt s x y)(hnd:x.yfL.Nodup):
 ∃F,ybB w (Good g s.yRU L w) v y F/\∀b,F b->∃i0,i0∈x.yfL/\s.yRU i0≠.none/\L.fp i0 b:=by
 cases y with
 |c c=>
  have hck:=yzV hp;obtain⟨F,h1,h2⟩:=yhj h (hv.one1 hck) hp;refine⟨F,h1,λb hb=>?_⟩;obtain⟨i0,m1,m2⟩:=h2 b hb;refine⟨i0,?_,m2⟩;cases x<;>first|exact m1|grind [AV.oid]
 | agg l'=>
  cases x with
  |agg l=>
   obtain⟨arr,e,hs,hl⟩:=hv;obtain⟨Fs,e1,e2,e3,e4⟩:=yC2 h (us:=arr.toList) hp (λj x hj=>by grind) hnd;refine⟨λb=>∃j,Fs j b,⟨arr,e,by omega,Fs,λj y hj=>?_,λj b hb=>⟨j,hb⟩,e4⟩,λb hb=>let⟨j,hj⟩:=hb;e3 j b hj⟩
   grind
  |_=>exact hp.elim
 |_=>exact hp.elim
theorem yAt(h:Repr g s a w L):∀{l l':List AV} {us:List Value},yxx s l l'->
 (∀(j:Nat) (x:AV),l[j]?=some x->∃u,us[j]?=some u/\RVs g s w L u x)->(l.flatMap AV.yfL).Nodup->
 ∃Fs:Nat->Nat->Prop,l'.length=l.length/\(∀(j:Nat) (y:AV),l'[j]?=some y->∃u,us[j]?=some u/\ybB w (Good g s.yRU L w) u y (Fs j))/\
  (∀j y,Fs j y->∃i0,i0∈l.flatMap AV.yfL/\s.yRU i0≠.none/\L.fp i0 y)/\(∀j j' y,Fs j y->Fs j' y->j=j')
 |[],[],us,_,_,_=>⟨λ_=>noF,rfl,λj c hj=>by grind,λ_ _ h=>h.elim,λ_ _ _ h=>h.elim⟩
 | x::l,y::l',us,hp,hv,hnd=>by
  obtain⟨hp1,hp2⟩:=hp;obtain⟨u0,hu0,hr0⟩:=hv 0 x rfl;rw[zaU]at hnd;have hnd':=zaY.1 hnd;obtain⟨F0,hF0,hF0i⟩:=yyo h hr0 hp1 hnd'.1
  obtain⟨Fs,e1,e2,e3,e4⟩:=yAt h (us:=us.tail) hp2 (λj y hj=>by
   simp_all) hnd'.2.1
  refine⟨λj=>match j with|0=>F0|j+1=>Fs j,by grind,λj y' hj=>?_,λj y hy=>?_,λj j' y hy hy'=>?_⟩
  .grind
  .rw[zaU];cases j with
   |zero=>grind
   |succ j=>grind
  .have cross:∀j,F0 y->Fs j y->False:=by
    intro j q1 q2;obtain⟨i0,m1,m2,m3⟩:=hF0i y q1;obtain⟨i1,n1,n2,n3⟩:=e3 j y q2;have:=h.inj i0 i1 y m2 n2 m3 n3
    grind
   cases j with
   |zero=>cases j' with
    |zero=>rfl
    |succ j'=>grind
   |succ j=>cases j' with
    |zero=>grind
    |succ j'=>grind
theorem yF3(h:Repr g s a w L){r:ResultVar}{q:RS}{x:AV}(hq:yhu P r=some q)(hx:yef s q=some x):∃v,(yfx a.tmps r).run P w=.ok v w/\RVs g s w L v x:=by
 cases r with
 | tmp t=>
  simp only[yhu]at hq;split at hq
  .rename_i hlt;cases hq;have:=h.at_ hlt;simp only[yef]at hx;split at hx
   .grind
   .cases hx;exact⟨_,rfl,this⟩
  grind
 | cell t ty=>
  simp only[yhu]at hq;split at hq
  case isFalse=>grind
  rename_i hlt;have hen:=h.at_ hlt;split at hq
  .rename_i k h1 h2;cases hq;simp only[yef]at hx;split at hx
   .rename_i id hid;rw[hid]at hen;obtain⟨b,cells',hO',hb,e1⟩:=hen;split at hx
    .rename_i cells hO;split at hx
     .rename_i hk;cases hx;obtain⟨arr,e,b1,b2,b3⟩:=h.box hO hb;have hr:=ymR (P:=P) (w:=w) h1 h2 (ad:=⟨b,0,none⟩) (us:=arr.toList) (by grind) (λj u hu=>by grind [add_lit,cell_of]);exact⟨.agg arr,by simp_all [yfx,asAddr],arr,rfl,b2,b3⟩
     grind
    grind
   grind
  .rename_i k h1 h2;cases hq;simp only[yef]at hx;split at hx
   .rename_i id hid;rw[hid]at hen;obtain⟨b,cells',hO',hb,e1⟩:=hen;split at hx
    .rename_i x' hO;cases hx;obtain⟨arr,e,b1,b2,b3⟩:=h.box hO hb;obtain⟨u,hu,hru⟩:=b3 0 _ rfl;have hr:=ylR (P:=P) (w:=w) h1 (ad:=⟨b,0,none⟩) (u:=u) (by grind [cell_of]);exact⟨u,by grind [yfx,asAddr],.of1 hru⟩
    grind
   grind
  grind
theorem yxo(h:Repr g s a w L):∀{l:List ResultVar} {rs:List RS} {xs:List AV},ybo P l=some rs->ybW s rs=some xs->
 ∃vs:List Value,(l.mapM (yfx a.tmps)).run P w=.ok vs w/\vs.length=xs.length/\vs.length=rs.length/\∀(j:Nat) (x:AV),xs[j]?=some x->∃u,vs[j]?=some u/\RVs g s w L u x
 |[],rs,xs,hc,hx=>by
  cases hc;cases hx;simp
 | r::l,rs,xs,hc,hx=>by
  simp only[ybo]at hc;split at hc
  .rename_i q qs h1 h2;cases hc;simp only[ybW]at hx;split at hx
   .rename_i x xs' x1 x2;cases hx;obtain⟨v,hv,hr⟩:=yF3 h h1 x1;obtain⟨vs,e1,e2,e3,e4⟩:=yxo h h2 x2;refine⟨v::vs,by simp_all,by grind,by grind,λj z hj=>?_⟩
    grind
   grind
  grind
def yIC(h:Repr g s a w L){fn:Func}{rs:List RS}{res:AV}(hc:ybo P fn.results.toList=some rs)(hy:ykX s rs res):
 ∃v F,(results fn a.tmps).run P w=.ok v w/\AOk w (Good g s.yRU L w) v res F/\∀b,F b->∃i0,s.yRU i0≠.none/\L.fp i0 b:=by
 unfold ykX at hy;split at hy
 case h_2=>exact hy.elim
 rename_i xs hxs;obtain⟨vs,e1,e2,e3,e4⟩:=yxo h hc hxs;unfold yIl at hy;split at hy
 .rename_i x;obtain⟨hy,hnd⟩:=hy;obtain⟨u,hu,hr⟩:=e4 0 x rfl;obtain⟨F,k1,k2⟩:=yyo h hr hy hnd
  match vs,e2,hu with
  |[u'],_,hu=>
   simp at hu;subst hu;refine⟨_,F,yfd e1,?_,λb hb=>let⟨i0,_,m⟩:=k2 b hb;⟨i0,m⟩⟩;cases res<;>first|exact k1|exact k1.elim
 .rename_i hne;obtain⟨ys,rfl,hy,hnd⟩:=hy;obtain⟨Fs,f1,f2,f3,f4⟩:=yAt h (us:=vs) hy e4 hnd
  have hl:vs.toArray.size≠1:=by
   intro e;have:xs.length=1:=by rw[<-e2];simpa using e
   match xs,this,hne with
   |[r],_,hne=>exact hne r rfl
  refine⟨_,λb=>∃j,Fs j b,yfd e1,?_,λb hb=>let⟨j,hj⟩:=hb;let⟨i0,_,m⟩:=f3 j b hj;⟨i0,m⟩⟩;rw[dif_neg hl];refine⟨vs.toArray,rfl,by simp[e2,f1],Fs,λj y hj=>?_,λj b hb=>⟨j,hb⟩,f4⟩;obtain⟨u,hu,hr⟩:=f2 j y hj;exact⟨u,by simpa using hu,hr⟩
def ybB.mono{w w':World}{G G':Nat->Prop}{v:Value}{x:AV}{F F':Nat->Prop}(h:ybB w G v x F)(hG:∀b,G b->G' b)
 (hc:∀(ad:Addr) (u:Value),G ad.block->w.cell? ad=some u->w'.cell? ad=some u) (hF:∀b,F b->F' b) (hh:∀b,F b->w'.heap[b]?=w.heap[b]?):ybB w' G' v x F':=by
 cases x with
 |c c=>exact OT.mono h hG hc hF hh
 |agg l=>
  obtain⟨arr,e,hs,Fs,h1,h2,h3⟩:=h;refine⟨arr,e,hs,Fs,λj y hy=>?_,λj b hb=>hF b (h2 j b hb),h3⟩;obtain⟨u,c,rfl,hu,ho⟩:=h1 j y hy;exact⟨u,c,rfl,hu,ho.mono hG hc (λ_ h=>h) λb hb=>hh b (h2 j b hb)⟩
 |_=>exact h.elim
def AOk.mono{w w':World}{G G':Nat->Prop}{v:Value}{x:AV}{F F':Nat->Prop}(h:AOk w G v x F)(hG:∀b,G b->G' b)
 (hc:∀(ad:Addr) (u:Value),G ad.block->w.cell? ad=some u->w'.cell? ad=some u) (hF:∀b,F b->F' b) (hh:∀b,F b->w'.heap[b]?=w.heap[b]?):AOk w' G' v x F':=by
 cases x with
 |tup l=>
  obtain⟨arr,e,hs,Fs,h1,h2,h3⟩:=h;exact⟨arr,e,hs,Fs,λj y hy=>let⟨u,hu,ho⟩:=h1 j y hy;⟨u,hu,ho.mono hG hc (λ_ h=>h) λb hb=>hh b (h2 j b hb)⟩,λj b hb=>hF b (h2 j b hb),h3⟩
 |c c=>exact ybB.mono (x:=.c c) h hG hc hF hh
 |agg l=>exact ybB.mono (x:=.agg l) h hG hc hF hh
 |_=>exact h.elim
end
def yBL{P:Program}{f N:Nat}{c:SC}{rs:List RS}{args:List AV}{res:AV}(hf:Has P f N c rs)(hN:args.length<=N)
 (H:ycR args->wpS P N c (yhC args) (λe s=>match e with| .exit _=>False|_=>ykX s rs res)):nI P f args res:=by
 obtain⟨fn,code,h1,h2,h3,⟨fl,h4⟩,h5⟩:=hf.ok;intro w G hG vs hvs hv
 have hwf:ycR args:=ygQ args λx hx=>by
  obtain⟨j,hj⟩:=zat hx;obtain⟨u,_,hr⟩:=hv j x hj;exact yDe hr
 refine calls_of_wp h1 h2 ?_
 let g:ySm:=⟨w,G,noF,N,#[]⟩
 let L0:Lay:=⟨noB,λ_=>noF⟩
 have hgood:∀b,G b->Good g noO L0 w b:=λb hb=>⟨.inl (.inl hb),λid hid=>absurd rfl hid⟩
 have hinit:Repr g (yhC args) {tmps:=vs++Array.replicate (fn.ntmps-vs.size) undef,defers:=[]} w L0:=by
  refine⟨by simp[g];omega,hf.small,rfl,Off.refl _ _,hG,λb hb=>hb.elim,λb hb h=>h.elim,λt=>?_,λid=>trivial,λid b hid=>absurd rfl hid,λi j b hi=>absurd rfl hi,λi b hi=>absurd rfl hi⟩
  show RV _ _ _ _ _ ((args[t]?).getD .any)
  cases ht:args[t]? with
  |none=>trivial
  | some x=>
   obtain⟨u,hu,hr⟩:=hv t x ht;have hlt:t<vs.size:=(zaJ.1 hu).1;have hsm:=hf.small
   have:g.val {tmps:=vs++Array.replicate (fn.ntmps-vs.size) undef,defers:=[]} t=u:=by
    unfold ySm.val;rw[if_pos (by omega),zan,zbS hlt,hu];rfl
   rw[this];exact yey (O:=noO) hgood hr
 refine Code.wp_mono ?_ (ygd (g:=g) rfl h4 (H hwf) hinit);intro e a' w' hl
 have fin:∀s blk,ykX s rs res->Repr g s a' w' blk->a'.defers=[]/\∃v,(results fn a'.tmps).run P w'=.ok v w'/\(∃v' F,Ending.returned v=.returned v'/\Below w.heap.size w w'/\(∀b,F b->w.heap.size<=b/\b<w'.heap.size)/\AOk w' (λb=>(G b\/(w.heap.size<=b/\b<w'.heap.size))/\¬F b) v' res F):=by
  intro s blk hr h;obtain⟨v,F,e1,e2,e3⟩:=yIC h h5 hr;refine⟨h.defers,v,e1,v,F,rfl,Off.below h.below,λb hb=>?_,e2.mono (λb hb=>⟨hb.1.elim (λh=>h.elim .inl λh=>h.elim) .inr,λhF=>?_⟩) (λ_ _ _ h=>h) (λ_ h=>h) (λ_ _=>rfl)⟩
  .obtain⟨i0,m1,m2⟩:=e3 b hb;obtain⟨n1,n2⟩:=h.new i0 b m1 m2;rcases n1 with n1|n1
   .exact n1.elim
   .exact⟨n1,n2⟩
  .obtain⟨i0,m1,m2⟩:=e3 b hF;exact hb.2 i0 m1 m2
 cases e with
 |normal=>obtain⟨s,blk,hr,h⟩:=hl;exact fin s blk hr h
 |exit id=>obtain⟨s,blk,hr,h⟩:=hl;exact hr.elim
 |ret=>obtain⟨s,blk,hr,h⟩:=hl;exact fin s blk hr h
 |goto l=>exact hl.elim
 |panic ch=>exact hl.elim
 |outgrown=>exact hl.elim
end Go.Proofs.YtdadkiofenhnbaaGreat
namespace Go.Proofs.YtdadkiofenhnbaaGreat
open Go.RowKit
def cw(k:Nat):List (List C)->C
 |[]=>.sl k []
 |r::l=>.ow k (r::l)
def ct(k:Nat):List (List C)->C
 |[]=>.sl k []
 |r::l=>.ot k (r::l)
def InF(P:Program)(f:Nat)(x x':AV)(args:List AV)(res:AV):Prop:=
 ∀ (w:World) (G F:Nat->Prop),(∀b,G b->b<w.heap.size)->(∀b,F b->b<w.heap.size)->(∀b,G b->¬F b)->∀(vs:Array Value) (v0:Value),vs.size=args.length+1->vs[0]?=some v0->ybB w G v0 x F->
  (∀(j:Nat) (y:AV),args[j]?=some y->∃u:Value,vs[j+1]?=some u/\RV w G noO noB u y)->
  Calls P f vs w λe w'=>∃v F',e=.returned v/\Off F w w'/\(∀b,F' b->F b\/(w.heap.size<=b/\b<w'.heap.size))/\
   ybB w' (λb=>((G b\/F b)\/(w.heap.size<=b/\b<w'.heap.size))/\¬F' b) v0 x' F'/\RV w' noF noO noB v res
def ioC(s:St)(x:AV)(c c':C)(up:Option (Nat×Obj)):Prop:=
 match x with
 | .own id k n=>match s.ob id,up with
  | .row k0 rows,some (id',.row k' rows')=>id'=id/\k0=k/\k'=k/\n=rows.length/\rows'.length=rows.length/\c=cw k rows/\c'=cw k rows'
  | .tr k0 ver rows,some (id',.tr k' ver' rows')=>id'=id/\k0=k/\k'=k/\ver'=ver+1/\n=rows.length/\rows'.length=rows.length/\c=ct k rows/\c'=ct k rows'
  |_,_=>False
 |x=>up=none/\yfF s x c/\c.plain=true/\c'=c
def ioL(s:St):List AV->List C->List C->List (Option (Nat×Obj))->Prop
 |[],[],[],[]=>True
 |x::l,c::cs,c'::cs',up::ups=>ioC s x c c' up/\ioL s l cs cs' ups
 |_,_,_,_=>False
def kH{k:Nat}{rows:List (List C)}(h:0<rows.length):cw k rows=.ow k rows:=by cases rows<;>simp_all [cw]
def iY{k:Nat}{rows:List (List C)}(h:0<rows.length):ct k rows=.ot k rows:=by cases rows<;>simp_all [ct]
def yKB{k:Nat}{rows:List (List C)}(h:rows.length=0):cw k rows=.sl k []:=by grind [cw]
def yKu{k:Nat}{rows:List (List C)}(h:rows.length=0):ct k rows=.sl k []:=by grind [ct]
def yyi{s:St}:∀{l:List AV} {cs cs':List C} {ups:List (Option (Nat×Obj))},ioL s l cs cs' ups->cs.length=l.length/\cs'.length=l.length/\ups.length=l.length
 |[],[],[],[],_=>⟨rfl,rfl,rfl⟩
 |x::l,c::cs,c'::cs',up::ups,h=>by obtain⟨a,b,c⟩:=yyi h.2;grind
def yCZ{s:St}:∀{l:List AV} {cs cs':List C} {ups:List (Option (Nat×Obj))},ioL s l cs cs' ups->∀{j:Nat} {x:AV} {c c':C} {up:Option (Nat×Obj)},l[j]?=some x->cs[j]?=some c->cs'[j]?=some c'->ups[j]?=some up->ioC s x c c' up
 |[],[],[],[],_,j,x,c,c',up,h1,_,_,_=>by grind
 |x::l,c::cs,c'::cs',up::ups,h,0,_,_,_,_,h1,h2,h3,h4=>by simp at h1 h2 h3 h4;subst h1 h2 h3 h4;exact h.1
 |x::l,c::cs,c'::cs',up::ups,h,j+1,_,_,_,_,h1,h2,h3,h4=>yCZ h.2 (j:=j) (by grind) (by grind) (by grind) (by grind)
section
variable {g:ySm} {s:St} {a:Act} {w:World} {L:Lay}
def given(s:St)(L:Lay)(ids:List Nat)(b:Nat):Prop:=∃id,id∈ids/\(∃k m,(s.yRU id).nO=some (k,m)/\0<m)/\L.fp id b
def kQ(ups:List (Option (Nat×Obj))):List Nat:=(ups.filterMap id).map (·.1)
def ybx{ids:List Nat}{b:Nat}(h:given s L ids b):∃id,id∈ids/\s.yRU id≠.none/\L.fp id b:=by
 obtain⟨id,h1,⟨k,m,h2,_⟩,h3⟩:=h;exact⟨id,h1,λe=>(by rw[e]at h2;cases h2),h3⟩
theorem yKk{ups:List (Option (Nat×Obj))}{p:Nat×Obj}(h:p∈ups.filterMap id):∃j:Nat,ups[j]?=some (some p):=by
 grind [List.getElem?_of_mem]
theorem yyZ{ups:List (Option (Nat×Obj))}{p:Nat×Obj}{j:Nat}(h:ups[j]?=some (some p)):p∈ups.filterMap id:=
 List.mem_filterMap.2 ⟨some p,zac h,rfl⟩
theorem yCb:∀{ups:List (Option (Nat×Obj))},(kQ ups).Nodup->∀{j j':Nat} {p p':Nat×Obj},ups[j]?=some (some p)->ups[j']?=some (some p')->p.1=p'.1->j=j'
 |[],_,j,j',p,p',h,_,_=>by grind
 | up::ups,hn,j,j',p,p',h,h',e=>by
  have hn2:(kQ ups).Nodup:=by
   grind [kQ]
  have hd:∀{i:Nat} {q q':Nat×Obj},up=some q->ups[i]?=some (some q')->q.1≠q'.1:=by
   intro i q q' e1 e2
   grind [yyZ,kQ]
  cases j with
  |zero=>grind
  |succ j=>cases j' with
   |zero=>grind
   |succ j'=>rw[yCb hn2 (j:=j) (j':=j') (by grind) (by grind) e]
theorem yIb(h:Repr g s a w L){v:Value}{x:AV}{c c':C}{up:Option (Nat×Obj)}(hv:RV1 w (Good g s.yRU L w) s.yRU L v x)(hp:ioC s x c c' up):
 ∃F,OT w (Good g s.yRU L w) v c F/\∀b,F b->∃p,up=some p/\(∃k m,(s.yRU p.1).nO=some (k,m)/\0<m)/\L.fp p.1 b:=by
 cases x with
 | own id k n=>
  simp only[ioC]at hp;split at hp
  .rename_i k0 rows id' k' rows' hO;obtain⟨rfl,rfl,rfl,rfl,hl,rfl,rfl⟩:=hp;rcases zaB rows.length with h0|h0
   .rw[yKB h0];obtain⟨F,h1,h2⟩:=yhj h hv (c:=.sl k' []) ⟨h0,rfl⟩;cases h1 with
    |sh h1=>exact⟨noF,.sh h1,λb hb=>hb.elim⟩
   .rw[kH h0];obtain⟨_,hl2,ho⟩:=ykc h hv (c:=.ow k' (rows.take rows.length)) (ids:=[id']) (by simp_all);rw[zby]at ho;exact⟨_,ho,λb hb=>⟨_,rfl,⟨k',rows.length,by rw[show s.yRU id'=_ from hO];rfl,h0⟩,hb⟩⟩
  .rename_i k0 ver rows id' k' ver' rows' hO;obtain⟨rfl,rfl,rfl,rfl,rfl,hl,rfl,rfl⟩:=hp;rcases zaB rows.length with h0|h0
   .rw[yKu h0];obtain⟨F,h1,h2⟩:=yhj h hv (c:=.sl k' []) ⟨h0,rfl⟩;cases h1 with
    |sh h1=>exact⟨noF,.sh h1,λb hb=>hb.elim⟩
   .rw[iY h0];obtain⟨_,hl2,ho⟩:=ykc h hv (c:=.ot k' (rows.take rows.length)) (ids:=[id']) (by simp_all);rw[zby]at ho;exact⟨_,ho,λb hb=>⟨_,rfl,⟨k',rows.length,by rw[show s.yRU id'=_ from hO];rfl,h0⟩,hb⟩⟩
  grind
 |box id off=>
  obtain⟨_,hp,hpl,_⟩:=hp;cases off<;>cases c<;>first|exact hp.elim|grind [C.plain]
 |c _=>obtain⟨_,hp,hpl,_⟩:=hp;obtain⟨F,h1,_⟩:=yhj h hv hp;exact⟨noF,.sh (h1.rd hpl),λb hb=>hb.elim⟩
 |nil _=>obtain⟨_,hp,hpl,_⟩:=hp;obtain⟨F,h1,_⟩:=yhj h hv hp;exact⟨noF,.sh (h1.rd hpl),λb hb=>hb.elim⟩
 |clip _ _=>obtain⟨_,hp,hpl,_⟩:=hp;obtain⟨F,h1,_⟩:=yhj h hv hp;exact⟨noF,.sh (h1.rd hpl),λb hb=>hb.elim⟩
 |_=>obtain⟨_,hp,hpl,_⟩:=hp;exact hp.elim
theorem yGl(h:Repr g s a w L){w':World}{G':Nat->Prop}{F':Nat->Prop}{X:Nat->Prop}{v:Value}{x:AV}{c c':C}{p:Nat×Obj}(hv:RV1 w (Good g s.yRU L w) s.yRU L v x)(hp:ioC s x c c' (some p))
 (hoff:Off X w w') (ho:OT w' G' v c' F'):
 s.yRU p.1≠.none/\(s.yRU p.1).like p.2/\(∀k v rows,s.yRU p.1=.tr k v rows->p.2≠.tr k v rows)/\p.2≠.none/\
 ∃S':Nat->Prop,(∀b,L.root p.1=some b->¬S' b)/\
  ((∀b,(L.root p.1=some b\/S' b)->F' b)\/((∃k,(s.yRU p.1).nO=some (k,0))/\∀b,(L.root p.1=some b\/S' b)->L.fp p.1 b))/\
  ∀(G'':Nat->Prop) (O:Nat->Obj) (B:Nat->Option Nat),(∀b,G' b->G'' b)->(∀b,Good g s.yRU L w b->G'' b)->jU w' G'' O B S' (L.root p.1) p.2:=by
 cases x with
 | own id k n=>
  generalize hup:some p=up at hp;simp only[ioC]at hp;split at hp
  .rename_i k0 rows id' k' rows' hO;cases hup;obtain⟨rfl,rfl,rfl,hnn,hl,rfl,rfl⟩:=hp;have hO':s.yRU id'=.row k' rows:=hO;refine⟨by grind,by rw[hO'];exact⟨rows'.length,rfl,by omega⟩,λk v r e=>(by simp),by simp,?_⟩;rcases zaB rows.length with h0|h0
   .have e1:rows=[]:=zay.1 h0;have e2:rows'=[]:=zay.1 (by omega);subst e1 e2;refine⟨noF,λ_ _ h=>h,.inr ⟨⟨k',by rw[hO'];rfl⟩,λb hb=>?_⟩,λG'' O B hG hG2=>?_⟩
    .rcases hb with hb|hb
     .exact .inl hb
     .exact hb.elim
    .cases hr:L.root id' with
     |none=>exact .inl ⟨rfl,rfl⟩
     |some b=>
      obtain⟨arr,e,r1,r2,r3,r4⟩:=h.row hO hr;obtain⟨arr',q1,q2⟩:=hoff.any r1;exact .inr ⟨b,arr',e,rfl,q1,by simp,by simp,λi r j c hi=>by grind⟩
   .have h0':0<rows'.length:=by omega
    rw[kH h0']at ho;obtain⟨m,hd,hle,hv⟩:=hv;rcases hv with⟨_,e0,_⟩|⟨b,cap,arr,e,hb,rfl,h1,h2,h3,h4⟩
    .omega
    .cases ho with
     |sh hr=>cases hr
     |ow0=>omega
     |@ow b0 len cap0 k0 rows0 arr2 e2 F0 vals g1 g2 g3 g4 g5 g6 g7 g8 g9=>
      have hsz:rows'.length*k'<=arr2.size:=zba (zaq k' (by omega)) g5;have hb':L.root id'=some b:=hb;refine⟨noF,λ_ _ h=>h,.inl λx hx=>?_,λG'' O B hG hG2=>.inr ⟨b,arr2,e2,hb',g1,hsz,g6,λi r j c hr hc=>⟨_,g8 i r hr j c hc,(g9 i r hr j c hc).mono hG (λ_ _ _ h=>h)⟩⟩⟩;rcases hx with hx|hx
      .grind
      .exact hx.elim
  .rename_i k0 ver rows id' k' ver' rows' hO;cases hup;obtain⟨rfl,rfl,rfl,rfl,hnn,hl,rfl,rfl⟩:=hp;have hO':s.yRU id'=.tr k' ver rows:=hO;refine⟨by grind,by rw[hO'];exact⟨rfl,by omega,by omega,λe=>by omega⟩,λk v r e=>(by grind),by simp,?_⟩;rcases zaB rows.length with h0|h0
   .have e1:rows=[]:=zay.1 h0;have e2:rows'=[]:=zay.1 (by omega);subst e1 e2;refine⟨noF,λ_ _ h=>h,.inr ⟨⟨k',by rw[hO'];rfl⟩,λb hb=>?_⟩,λG'' O B hG hG2=>?_⟩
    .rcases hb with hb|hb
     .exact .inl hb
     .exact hb.elim
    .cases hr:L.root id' with
     |none=>exact .inl ⟨rfl,rfl⟩
     |some b=>
      obtain⟨arr,e,r1,r2,r3,r4⟩:=h.tree hO hr;obtain⟨arr',q1,q2⟩:=hoff.any r1;exact .inr ⟨b,arr',e,rfl,q1,by simp,by simp,λ_ _=>default,λ_ _=>noF,λ_ _ _ h=>h.elim,λ_ _ _ _ _ h=>h.elim,λi r hi=>by grind,λi r hi=>by grind⟩
   .have h0':0<rows'.length:=by omega
    rw[iY h0']at ho;obtain⟨m,hd,hle,hv⟩:=hv;rcases hv with⟨_,e0,_⟩|⟨b,cap,arr,e,hb,rfl,h1,h2,h3,h4⟩
    .omega
    .cases ho with
     |sh hr=>cases hr
     |ot0=>omega
     |@ot b0 len cap0 k0 rows0 arr2 e2 F0 vals Fs g1 g2 g3 g4 g5 g6 g7 g8 g9 g10 g11=>
      have hsz:rows'.length*k'<=arr2.size:=zba (zaq k' (by omega)) g5;have hb':L.root id'=some b:=hb;refine⟨λx=>∃i j,Fs i j x,λx hx=>?_,.inl λx hx=>?_,λG'' O B hG hG2=>.inr ⟨b,arr2,e2,hb',g1,hsz,g6,vals,Fs,λi j x hx=>⟨⟨i,j,hx⟩,(g8 i j x hx).2⟩,g9,g10,λi r hr j c hc=>(g11 i r hr j c hc).mono hG (λ_ _ _ h=>h) (λ_ h=>h) (λ_ _=>rfl)⟩⟩<;>grind
  grind
 |_=>obtain⟨hp,_⟩:=hp;grind
def Repr.handed(h:Repr g s a w L){l:List AV}{us:List Value}{cs cs':List C}{ups:List (Option (Nat×Obj))}(hio:ioL s l cs cs' ups)(hn:(kQ ups).Nodup)
 (hus:∀(j:Nat) (x:AV),l[j]?=some x->∃u,us[j]?=some u/\RV1 w (Good g s.yRU L w) s.yRU L u x):
 (∃Fs:Nat->Nat->Prop,(∀(j:Nat) (c:C),cs[j]?=some c->∃u,us[j]?=some u/\OT w (Good g s.yRU L w) u c (Fs j))/\(∀j b,Fs j b->given s L (kQ ups) b)/\(∀j j' b,Fs j b->Fs j' b->j=j'))/\
 ∀{w':World} {F':Nat->Prop} {Fs':Nat->Nat->Prop},Off (given s L (kQ ups)) w w'->(∀b,F' b->given s L (kQ ups) b\/(w.heap.size<=b/\b<w'.heap.size))->
  (∀(j:Nat) (c:C),cs'[j]?=some c->∃u,us[j]?=some u/\OT w' (λb=>((Good g s.yRU L w b\/given s L (kQ ups) b)\/(w.heap.size<=b/\b<w'.heap.size))/\¬F' b) u c (Fs' j))->(∀j b,Fs' j b->F' b)->(∀j j' b,Fs' j b->Fs' j' b->j=j')->
  ∃L',Repr g ⟨s.env,nG s.yRU (ups.filterMap id)⟩ a w' L':=by
 obtain⟨n1,n2,n3⟩:=yyi hio
 have at_:∀{j:Nat} {x:AV},l[j]?=some x->∃c c' up,cs[j]?=some c/\cs'[j]?=some c'/\ups[j]?=some up/\ioC s x c c' up:=by
  intro j x hx;have hlt:=(zaa.1 hx).1;have e1:cs[j]?=some (cs[j]'(by omega)):=zab (by omega);have e2:cs'[j]?=some (cs'[j]'(by omega)):=zab (by omega);have e3:ups[j]?=some (ups[j]'(by omega)):=zab (by omega);exact⟨_,_,_,e1,e2,e3,yCZ hio hx e1 e2 e3⟩
 constructor
 .have key:∀j:Nat,∃F:Nat->Prop,(∀c,cs[j]?=some c->∃u,us[j]?=some u/\OT w (Good g s.yRU L w) u c F)/\∀b,F b->∃p:Nat×Obj,ups[j]?=some (some p)/\(∃k m,(s.yRU p.1).nO=some (k,m)/\0<m)/\L.fp p.1 b:=by
   intro j
   by_cases hj:j<l.length
   .obtain⟨c,c',up,e1,e2,e3,e4⟩:=at_ (zab hj);obtain⟨u,hu,hr⟩:=hus j _ (zab hj);obtain⟨F,f1,f2⟩:=yIb h hr e4;refine⟨F,λc0 hc0=>⟨u,hu,by rw[e1]at hc0;cases hc0;exact f1⟩,λb hb=>?_⟩;obtain⟨p,hp,r⟩:=f2 b hb;exact⟨p,by rw[e3,hp],r⟩
   .exact⟨noF,λc hc=>by have:=(zaa.1 hc).1;omega,λb hb=>hb.elim⟩
  refine⟨λj=>(key j).choose,λj c hc=>(key j).choose_spec.1 c hc,λj b hb=>?_,λj j' b hb hb'=>?_⟩
  .obtain⟨p,h1,h2,h3⟩:=(key j).choose_spec.2 b hb;exact⟨p.1,zbx (yyZ h1),h2,h3⟩
  .obtain⟨p,h1,⟨k,m,h2,_⟩,h3⟩:=(key j).choose_spec.2 b hb;obtain⟨p',h1',⟨k',m',h2',_⟩,h3'⟩:=(key j').choose_spec.2 b hb';have:=h.inj p.1 p'.1 b (λe=>by rw[e]at h2;cases h2) (λe=>by rw[e]at h2';cases h2') h3 h3';exact yCb hn h1 h1' this
 .intro w' F' Fs' hoff hF' hot hsub hdis;generalize hX:given s L (kQ ups)=X at *;have hXe:∀b,X b->given s L (kQ ups) b:=λb hb=>by rw[hX];exact hb
  have good_X:∀b,Good g s.yRU L w b->¬X b:=by
   intro b hb hx;obtain⟨id,_,h2,h3⟩:=ybx (hXe b hx);exact hb.2 id h2 h3
  have hcell:∀(ad:Addr) (u:Value),Good g s.yRU L w ad.block->w.cell? ad=some u->w'.cell? ad=some u:=by
   intro ad u hg hc;rw[World.cell?_of_block (hoff.block ad.block (ycl h hg) (good_X _ hg))];exact hc
  have post:∀{j:Nat} {p:Nat×Obj},ups[j]?=some (some p)->s.yRU p.1≠.none/\(s.yRU p.1).like p.2/\(∀k v rows,s.yRU p.1=.tr k v rows->p.2≠.tr k v rows)/\p.2≠.none/\
   ∃S':Nat->Prop,(∀b,L.root p.1=some b->¬S' b)/\
   ((∀b,(L.root p.1=some b\/S' b)->Fs' j b)\/((∃k,(s.yRU p.1).nO=some (k,0))/\∀b,(L.root p.1=some b\/S' b)->L.fp p.1 b))/\
   ∀(G'':Nat->Prop) (O:Nat->Obj) (B:Nat->Option Nat),(∀b,((Good g s.yRU L w b\/X b)\/(w.heap.size<=b/\b<w'.heap.size))/\¬F' b->G'' b)->(∀b,Good g s.yRU L w b->G'' b)->jU w' G'' O B S' (L.root p.1) p.2:=by
   intro j p hp;have hlt:j<l.length:=by have:=(zaa.1 hp).1;omega
   obtain⟨c,c',up,e1,e2,e3,e4⟩:=at_ (zab hlt);rw[hp]at e3;cases e3;obtain⟨u,hu,hr⟩:=hus j _ (zab hlt);obtain⟨u',hu',ho⟩:=hot j c' e2;rw[hu]at hu';cases hu';exact yGl h hr e4 hoff ho
  let ids:=kQ ups
  have find:∀i,i∈ids->∃(j:Nat) (p:Nat×Obj),ups[j]?=some (some p)/\p.1=i:=by
   intro i hi;obtain⟨p,hp,e⟩:=zaP.1 hi;obtain⟨j,hj⟩:=yKk hp;exact⟨j,p,hj,e⟩
  have sub_:∀i,∃S':Nat->Prop,∀(j:Nat) (p:Nat×Obj),ups[j]?=some (some p)->p.1=i->(∀b,L.root p.1=some b->¬S' b)/\
   ((∀b,(L.root p.1=some b\/S' b)->Fs' j b)\/((∃k,(s.yRU p.1).nO=some (k,0))/\∀b,(L.root p.1=some b\/S' b)->L.fp p.1 b))/\
   ∀(G'':Nat->Prop) (O:Nat->Obj) (B:Nat->Option Nat),(∀b,((Good g s.yRU L w b\/X b)\/(w.heap.size<=b/\b<w'.heap.size))/\¬F' b->G'' b)->(∀b,Good g s.yRU L w b->G'' b)->jU w' G'' O B S' (L.root p.1) p.2:=by
   intro i
   by_cases hi:i∈ids
   .obtain⟨j,p,hj,e⟩:=find i hi;obtain⟨_,_,_,_,S',q1,q2,q3⟩:=post hj;refine⟨S',λj' p' hj' e'=>?_⟩;have:j'=j:=yCb hn hj' hj (e'.trans e.symm);subst this;rw[hj]at hj';cases hj';exact⟨q1,q2,q3⟩
   .exact⟨noF,λj p hj e=>absurd (e▸zbx (yyZ hj)) hi⟩
  let S2:=λi=>(sub_ i).choose
  have hS2:=λi=>(sub_ i).choose_spec
  let L':Lay:=⟨L.root,λi=>if i∈ids then S2 i else L.sub i⟩
  have sb:∀i,L'.sub i=if i∈ids then S2 i else L.sub i:=λi=>rfl
  have O':∀{j:Nat} {p:Nat×Obj},ups[j]?=some (some p)->nG s.yRU (ups.filterMap id) p.1=p.2:=λhj=>kW hn _ (yyZ hj)
  have fp':∀{i b},i∈ids->L'.fp i b->(L.root i=some b\/S2 i b):=by
   intro i b hi hf;unfold Lay.fp at hf;rw[sb,if_pos hi]at hf;exact hf
  have livei:∀i,i∈ids->s.yRU i≠.none:=by
   intro i hi;obtain⟨j,p,hj,rfl⟩:=find i hi;exact(post hj).1
  have newX:∀{b},X b->¬(w.heap.size<=b):=by
   intro b hb hle;obtain⟨id,_,h2,h3⟩:=ybx (hXe b hb);have:=(h.new id b h2 h3).2;omega
  have zz:∀{i j b k},i∈ids->s.yRU j≠.none->(s.yRU j).nO=some (k,0)->L.fp j b->F' b->False:=by
   intro i j b k hi hlj hdj hfj hF;rcases hF' b hF with hx|⟨hx,_⟩
   .obtain⟨id,_,⟨k2,m,h2,h2'⟩,h3⟩:=hXe b hx;have:=h.inj j id b hlj (λe=>by rw[e]at h2;cases h2) hfj h3;rw[<-this,hdj]at h2;cases h2;omega
   .have:=(h.new j b hlj hfj).2;omega
  have key:=h.yq6 [] (λi=>i∈ids) (objs':=nG s.yRU (ups.filterMap id)) (w':=w') (L':=L') (X:=X) hoff
   (λq hq=>let⟨id,h1,h2,h3⟩:=ybx (hXe q hq);⟨id,.inl h1,h2,h3⟩)
   (λi hi=>⟨by rw[kY hi];simp[Obj.yTq],rfl,by rw[sb,if_neg hi]⟩)
   (λi b hi _ hf=>by
    obtain⟨j,p,hj,rfl⟩:=find i hi;obtain⟨q1,q2,q3⟩:=hS2 p.1 j p hj rfl;rcases q2 with q2|⟨_,q2⟩
    .rcases hF' b (hsub j b (q2 b (fp' hi hf)))with e|e
     .obtain⟨id,h1,h2,h3⟩:=ybx (hXe b e);exact .inl ⟨id,.inl h1,h2,h3⟩
     .exact .inr e
    .exact .inl ⟨p.1,.inl hi,livei p.1 hi,q2 b (fp' hi hf)⟩)
   (λi i' b hi hi' _ _ hf hf'=>by
    obtain⟨j,p,hj,rfl⟩:=find i hi;obtain⟨j',p',hj',rfl⟩:=find i' hi';obtain⟨_,q2,_⟩:=hS2 p.1 j p hj rfl;obtain⟨_,q2',_⟩:=hS2 p'.1 j' p' hj' rfl;rcases q2 with q2|⟨⟨k,hk⟩,q2⟩<;>rcases q2' with q2'|⟨⟨k',hk'⟩,q2'⟩
    .have:=hdis j j' b (q2 b (fp' hi hf)) (q2' b (fp' hi' hf'));subst this;rw[hj]at hj';cases hj';rfl
    .exact(zz hi (livei _ hi') hk' (q2' b (fp' hi' hf')) (hsub j b (q2 b (fp' hi hf)))).elim
    .exact(zz hi' (livei _ hi) hk (q2 b (fp' hi hf)) (hsub j' b (q2' b (fp' hi' hf')))).elim
    .exact h.inj _ _ b (livei _ hi) (livei _ hi') (q2 b (fp' hi hf)) (q2' b (fp' hi' hf')))
   (λi b hi _ hr=>by
    obtain⟨j,p,hj,rfl⟩:=find i hi;rw[sb,if_pos hi];exact(hS2 p.1 j p hj rfl).1 b hr)
   (λi hi _ _=>by
    obtain⟨j,p,hj,rfl⟩:=find i hi;rw[O' hj];exact⟨(post hj).2.1,rfl⟩)
   (λi k v rows hi _ hk=>by
    obtain⟨j,p,hj,rfl⟩:=find i hi;rw[O' hj];exact(post hj).2.2.1 k v rows hk)
   (λG' K hN hM i hi=>by
    obtain⟨j,p,hj,rfl⟩:=find i hi;rw[O' hj,sb,if_pos hi];refine(hS2 p.1 j p hj rfl).2.2 G' _ _ (λb hb=>?_) K.good;obtain⟨e1,e2⟩:=hb;rcases e1 with(e1|e1)|e1
    .exact K.good b e1
    .refine hM b (let⟨id,q1,q2,q3⟩:=ybx (hXe b e1);⟨id,.inl q1,q2,q3⟩) λi hi _ hf=>e2 ?_;obtain⟨j,p,hj,rfl⟩:=find i hi;obtain⟨_,q2,_⟩:=hS2 p.1 j p hj rfl;rcases q2 with q2|⟨⟨k,hk⟩,q2⟩
     .exact hsub j b (q2 b (fp' hi hf))
     .obtain⟨id,_,⟨k2,m,h2,h2'⟩,h3⟩:=hXe b e1;have:=h.inj p.1 id b (livei _ hi) (λe=>by rw[e]at h2;cases h2) (q2 b (fp' hi hf)) h3;rw[<-this,hk]at h2;cases h2;omega
    .refine hN b e1.1 e1.2 λi hi _ hf=>e2 ?_;obtain⟨j,p,hj,rfl⟩:=find i hi;obtain⟨_,q2,_⟩:=hS2 p.1 j p hj rfl;rcases q2 with q2|⟨_,q2⟩
     .exact hsub j b (q2 b (fp' hi hf))
     .have:=(h.new p.1 b (livei _ hi) (q2 b (fp' hi hf))).2;omega)
  exact⟨L',key.1⟩
def yAf(h:Repr g s a w L){ids:List Nat}{b:Nat}(hb:given s L ids b):b<w.heap.size:=by
 obtain⟨id,_,h2,h3⟩:=ybx hb;exact(h.new id b h2 h3).2
end
section
variable {P:Program} {f:Nat} {s:St} {d:Option Nat} {avs args:List AV} {res:AV} {K:St->Prop}
def St.turned(s:St)(ups:List (Option (Nat×Obj))):St:=⟨s.env,nG s.yRU (ups.filterMap id)⟩
def yAb{x0 x x':AV}{l:List AV}{cs cs':List C}{ups:List (Option (Nat×Obj))}(hp:InF P f x x' args res)(ho:iO s avs args)(hdat:avs.all AV.nU=true)(hs:res.scalar=true)
 (hio:ioL s l cs cs' ups) (hn:(kQ ups).Nodup)
 (hin:∀(w:World) (G:Nat->Prop) (B:Nat->Option Nat) (v:Value),RV w G s.yRU B v x0->∃us:List Value,us.length=l.length/\(∀(j:Nat) (x:AV),l[j]?=some x->∃u,us[j]?=some u/\RV1 w G s.yRU B u x)/\
  (∀(w:World) (G F:Nat->Prop) (Fs:Nat->Nat->Prop),(∀(j:Nat) (c:C),cs[j]?=some c->∃u,us[j]?=some u/\OT w G u c (Fs j))->(∀j b,Fs j b->F b)->(∀j j' b,Fs j b->Fs j' b->j=j')->ybB w G v x F)/\
  (∀(w:World) (G F:Nat->Prop),ybB w G v x' F->∃Fs:Nat->Nat->Prop,(∀(j:Nat) (c:C),cs'[j]?=some c->∃u,us[j]?=some u/\OT w G u c (Fs j))/\(∀j b,Fs j b->F b)/\(∀j j' b,Fs j b->Fs j' b->j=j')))
 (hK:K ((s.turned ups).put d res)):yat P f (x0::avs) d s K:=by
 intro g a w blk h hd vs hvs hv;obtain⟨h1,h2⟩:=yV ho;obtain⟨v0,hv0,hr0⟩:=hv 0 x0 rfl;obtain⟨us,u0,u1,u2,u3⟩:=hin w _ _ v0 hr0;obtain⟨⟨Fs,a1,a2,a3⟩,a4⟩:=h.handed hio hn u1;have hFlt:∀b,given s blk (kQ ups) b->b<w.heap.size:=λb hb=>yAf h hb;refine(hp w (Good g s.yRU blk w) (given s blk (kQ ups)) (λb hb=>ycl h hb) hFlt (λb hb hx=>?_) vs v0 (by simp at hvs;omega) hv0 (u2 w _ _ Fs a1 a2 a3) (λj y hj=>?_)).mono ?_
 .obtain⟨id,_,h2,h3⟩:=ybx hx;exact hb.2 id h2 h3
 .obtain⟨x,hx,hxy⟩:=h2 j y hj;obtain⟨u,hu,hru⟩:=hv (j+1) x (by simpa using hx);exact⟨u,hu,ykY (λ_ h=>h) hru (zaf.1 hdat x (zac hx)) hxy⟩
 .rintro e w' ⟨v,F',rfl,hoff,hF',hx',hr⟩
  obtain⟨Fs',b1,b2,b3⟩:=u3 w' _ _ hx';obtain⟨L',hL⟩:=a4 hoff hF' b1 b2 b3;exact⟨v,rfl,_,L',hK,hL.put hd (ybN hs hr)⟩
def tH{x0:AV}{c c':C}{up:Option (Nat×Obj)}(hp:InF P f (.c c) (.c c') args res)(ho:iO s avs args)(hdat:avs.all AV.nU=true)(hs:res.scalar=true)
 (hio:ioC s x0 c c' up) (hK:K ((s.turned [up]).put d res)):yat P f (x0::avs) d s K:=by
 have hck:x0.lH=true:=by
  cases x0<;>first
   |rfl
   |(obtain⟨_,hp,_⟩:=hio;exact hp.elim)
 refine yAb (l:=[x0]) (cs:=[c]) (cs':=[c']) (ups:=[up]) hp ho hdat hs ⟨hio,trivial⟩ (by cases up<;>simp[kQ]) (λw G B v hr=>⟨[v],rfl,λj x hj=>?_,λw G F Fs e1 e2 e3=>?_,λw G F ha=>?_⟩) hK
 .cases j with
  |zero=>
   simp at hj;subst hj;refine⟨v,rfl,?_⟩;cases x0<;>first|exact hr|simp[AV.lH]at hck
  |succ j=>simp at hj
 .obtain⟨u,hu,ho⟩:=e1 0 c rfl;simp at hu;subst hu;exact OT.mono ho (λ_ h=>h) (λ_ _ _ h=>h) (e2 0) (λ_ _=>rfl)
 .refine⟨λj b=>j=0/\F b,λj x hj=>?_,λj b hb=>hb.2,λj j' b hb hb'=>hb.1.trans hb'.1.symm⟩;cases j with
  |zero=>simp at hj;subst hj;exact⟨v,rfl,OT.mono ha (λ_ h=>h) (λ_ _ _ h=>h) (λ_ h=>⟨rfl,h⟩) (λ_ _=>rfl)⟩
  |succ j=>simp at hj
end
def ykj(x:AV)(args:List AV):St:=⟨λt=>if t=1000000 then x.ylA 0 else if t=0 then x.ylA 0 else(args[t-1]?).getD .any,nG noO (x.yd1 0)⟩
def inP(s:St)(rs:List RS)(x' res:AV):Prop:=ygt s (s.env 1000000) x'/\(s.env 1000000).yfL.Nodup/\ybG s rs res
def aK{P:Program}{f N:Nat}{c:SC}{rs:List RS}{x x':AV}{args:List AV}{res:AV}(hf:Has P f N c rs)(hN:args.length+1<=N)(hn:((x.yd1 0).map (·.1)).Nodup)(hsc:res.scalar=true)
 (H:ycR args->wpS P N c (ykj x args) (λe s=>match e with| .exit _=>False|_=>inP s rs x' res)):InF P f x x' args res:=by
 obtain⟨fn,code,h1,h2,h3,⟨fl,h4⟩,h5⟩:=hf.ok;intro w G F hG hF hGF vs v0 hvs hv0 hx hv
 have hwf:ycR args:=ygQ args λx hx=>by
  obtain⟨j,hj⟩:=zat hx;obtain⟨u,_,hr⟩:=hv j x hj;exact yDe hr
 refine calls_of_wp h1 h2 ?_;obtain⟨R,S,a1,a2,a3,a4,a5⟩:=hx.lays hn;generalize hl:x.yd1 0=l at *
 let g:ySm:=⟨w,G,F,N,#[v0]⟩
 let ids:=l.map (·.1)
 let L0:Lay:=⟨λi=>if i∈ids then R i else none,λi=>if i∈ids then S i else noF⟩
 have hobj:(ykj x args).yRU=nG noO l:=by simp[ykj,hl]
 have mem:∀i,i∈ids->∃p,p∈l/\p.1=i:=λi hi=>by obtain⟨p,hp,e⟩:=zaP.1 hi;exact⟨p,hp,e⟩
 have dead:∀i,i∉ids->nG noO l i=.none:=λi hi=>kY hi;have rt:∀i,i∈ids->L0.root i=R i:=λi hi=>if_pos hi;have sb:∀i,i∈ids->L0.sub i=S i:=λi hi=>if_pos hi
 have fps:∀i b,nG noO l i≠.none->L0.fp i b->i∈ids/\(R i=some b\/S i b):=by
  intro i b hi hf
  by_cases hm:i∈ids
  .unfold Lay.fp at hf;rw[rt i hm,sb i hm]at hf;exact⟨hm,hf⟩
  .exact absurd (dead i hm) hi
 have hgood:∀b,G b->Good g (nG noO l) L0 w b:=by
  intro b hb;refine⟨.inl (.inl hb),λi hi hf=>?_⟩;obtain⟨hm,hf⟩:=fps i b hi hf;obtain⟨p,hp,rfl⟩:=mem i hm;exact hGF b hb (a1 p hp b hf)
 have hinit:Repr g (ykj x args) {tmps:=vs++Array.replicate (fn.ntmps-vs.size) undef,defers:=[]} w L0:=by
  refine⟨by simp[g];omega,hf.small,rfl,Off.refl _ _,hG,hF,hGF,λt=>?_,λid=>?_,λid b hid hfp=>?_,λi j b hi hj hfi hfj=>?_,λi b hi hr=>?_⟩
  .rw [hobj];have hsm:=hf.small
   have hx0:RV w (Good g (nG noO l) L0 w) (nG noO l) L0 v0 (x.ylA 0):=by
    refine yhR (a4 _ _ _ hgood λp hp=>⟨kW hn p hp,rt _ (zbx hp)⟩)
   have val:∀u,vs[t]?=some u->g.val {tmps:=vs++Array.replicate (fn.ntmps-vs.size) undef,defers:=[]} t=u:=by
    intro u hu;have hlt:t<vs.size:=(zaJ.1 hu).1;unfold ySm.val;rw[if_pos (by unfold jV at *;omega),zan,zbS hlt,hu];rfl
   show RV _ _ _ _ _ (if t=1000000 then x.ylA 0 else if t=0 then x.ylA 0 else(args[t-1]?).getD .any)
   split
   .rename_i e;subst e
    have:g.val {tmps:=vs++Array.replicate (fn.ntmps-vs.size) undef,defers:=[]} 1000000=v0:=by
     unfold ySm.val;rw[if_neg (by unfold jV;omega)];simp[g,jV]
    rw[this];exact hx0
   .split
    .rename_i e;subst e;rw[val v0 hv0];exact hx0
    .rename_i e1 e2;cases ht:args[t-1]? with
     |none=>trivial
     |some y=>
      obtain⟨u,hu,hr⟩:=hv (t-1) y ht;rw[show t-1+1=t by omega]at hu;rw[val u hu];exact yey (O:=nG noO l) hgood hr
  .rw[hobj]
   by_cases hm:id∈ids
   .obtain⟨p,hp,rfl⟩:=mem id hm;rw[kW hn p hp,sb _ hm,show L0.root p.1=_ from rt _ hm];exact a5 _ _ _ hgood p hp
   .rw[dead id hm];trivial
  .rw[hobj]at hid;obtain⟨hm,hfp⟩:=fps id b hid hfp;obtain⟨p,hp,rfl⟩:=mem id hm;have:=a1 p hp b hfp;exact⟨.inl this,hF b this⟩
  .rw[hobj]at hi hj;obtain⟨hm,hfi⟩:=fps i b hi hfi;obtain⟨hm',hfj⟩:=fps j b hj hfj;obtain⟨p,hp,rfl⟩:=mem i hm;obtain⟨q,hq,rfl⟩:=mem j hm';exact a3 p q hp hq b hfi hfj
  .rw[hobj]at hi;obtain⟨hm,_⟩:=fps i b hi (.inl hr);obtain⟨p,hp,rfl⟩:=mem i hm;rw[rt _ hm]at hr;rw[sb _ hm];exact a2 p hp b hr
 refine Code.wp_mono ?_ (ygd (g:=g) rfl h4 (H hwf) hinit);intro e a' w' hl
 have fin:∀s blk,inP s rs x' res->Repr g s a' w' blk->a'.defers=[]/\∃v,(results fn a'.tmps).run P w'=.ok v w'/\(∃v' F',Ending.returned v=.returned v'/\Off F w w'/\(∀b,F' b->F b\/(w.heap.size<=b/\b<w'.heap.size))/\
  ybB w' (λb=>((G b\/F b)\/(w.heap.size<=b/\b<w'.heap.size))/\¬F' b) v0 x' F'/\RV w' noF noO noB v' res):=by
  rintro s blk ⟨hs1,hs2,hs3⟩ h
  obtain⟨v,e1,e2⟩:=yyI h h5 hs3;have hsl:=h.env 1000000;have hv:g.val a' 1000000=v0:=by unfold ySm.val;rw[if_neg (by unfold jV;omega)];simp[g,jV]
  rw[hv]at hsl;obtain⟨F',k1,k2⟩:=yyo h hsl hs1 hs2;refine⟨h.defers,v,e1,v,F',rfl,h.below,λb hb=>?_,k1.mono (λb hb=>⟨hb.1,λhF=>?_⟩) (λ_ _ _ h=>h) (λ_ h=>h) (λ_ _=>rfl),ybN hsc e2⟩
  .obtain⟨i0,_,m1,m2⟩:=k2 b hb;obtain⟨n1,n2⟩:=h.new i0 b m1 m2;rcases n1 with n1|n1
   .exact .inl n1
   .exact .inr ⟨n1,n2⟩
  .obtain⟨i0,_,m1,m2⟩:=k2 b hF;exact hb.2 i0 m1 m2
 cases e with
 |normal=>obtain⟨s,blk,hr,h⟩:=hl;exact fin s blk hr h
 |exit id=>obtain⟨s,blk,hr,h⟩:=hl;exact hr.elim
 |ret=>obtain⟨s,blk,hr,h⟩:=hl;exact fin s blk hr h
 |goto l=>exact hl.elim
 |panic ch=>exact hl.elim
 |outgrown=>exact hl.elim
end Go.Proofs.YtdadkiofenhnbaaGreat
namespace Go.Proofs.YtdadkiofenhnbaaGreat
open Go.RowKit
def C.full:C->Bool
 | .ow _ (_::_)=>true
 | .ot _ (_::_)=>true
 |_=>false
section
variable {g:ySm} {s:St} {a:Act} {w:World} {L:Lay}
end
section
variable {P:Program} {f:Nat} {s:St} {d:Option Nat} {avs args:List AV} {res:AV} {K:St->Prop}
end
end Go.Proofs.YtdadkiofenhnbaaGreat
namespace Go.Proofs.YtdadkiofenhnbaaGreat
open Go.RowKit
@[simp] def unp_c{d:Nat}{c:C}:(AV.c c).unp d=c.unp d:=rfl
@[simp] def unp_agg{d:Nat}{l:List AV}:(AV.agg l).unp d=.agg (ybi d 0 (AV.cs l)):=rfl
@[simp] def unp1_c{d:Nat}{c:C}:(AV.c c).ylA d=c.unp d:=rfl
@[simp] def yQR{d:Nat}{l:List AV}:(AV.agg l).ylA d=.agg (ybi d 0 (AV.cs l)):=rfl
@[simp] def unpO_c{d:Nat}{c:C}:(AV.c c).fK d=c.fK d:=rfl
@[simp] def yRm{d:Nat}{l:List AV}:(AV.agg l).fK d=jP d 0 (AV.cs l):=rfl
@[simp] def unpO1_c{d:Nat}{c:C}:(AV.c c).yd1 d=c.fK d:=rfl
@[simp] def yN0{d:Nat}{l:List AV}:(AV.agg l).yd1 d=jP d 0 (AV.cs l):=rfl
@[simp] def yRc{d j:Nat}:ybi d j []=[]:=rfl
@[simp] def yMA{d j:Nat}{c:C}{l:List C}:ybi d j (c::l)=c.unp (sid d j)::ybi d (j+1) l:=rfl
@[simp] def yNO{d j:Nat}:jP d j []=[]:=rfl
@[simp] def yJ8{d j:Nat}{c:C}{l:List C}:jP d j (c::l)=c.fK (sid d j)++jP d (j+1) l:=rfl
@[simp] def cs_nil:AV.cs []=[]:=rfl
@[simp] def yPI{c:C}{l:List AV}:AV.cs (.c c::l)=c::AV.cs l:=rfl
attribute [simp] ypQ sid tid
@[simp] def cunp_i{d:Nat}{n:Int}:(C.i n).unp d=.c (.i n):=rfl
@[simp] def cunp_b{d:Nat}{n:Bool}:(C.b n).unp d=.c (.b n):=rfl
@[simp] def cunp_sl{d k:Nat}{r:List (List C)}:(C.sl k r).unp d=.c (.sl k r):=rfl
@[simp] def cunp_ow{d k:Nat}{r:List (List C)}:(C.ow k r).unp d=.own d k r.length:=rfl
@[simp] def cunp_ot{d k:Nat}{r:List (List C)}:(C.ot k r).unp d=.own d k r.length:=rfl
@[simp] def cunpO_i{d:Nat}{n:Int}:(C.i n).fK d=[]:=rfl
@[simp] def cunpO_b{d:Nat}{n:Bool}:(C.b n).fK d=[]:=rfl
@[simp] def yPP{d k:Nat}{r:List (List C)}:(C.sl k r).fK d=[]:=rfl
@[simp] def yPy{d k:Nat}{r:List (List C)}:(C.ow k r).fK d=[(d,.row k r)]:=rfl
@[simp] def yQe{d k:Nat}{r:List (List C)}:(C.ot k r).fK d=[(d,.tr k 0 r)]:=rfl
@[simp] def yKg{O:Nat->Obj}{i:Nat}:nG O [] i=O i:=rfl
@[simp] def yJp{O:Nat->Obj}{k i:Nat}{o:Obj}{l:List (Nat×Obj)}:nG O ((k,o)::l) i=if i=k then o else nG O l i:=rfl
@[simp] def yOY{s:St}{d t:Nat}{res:AV}:(s.take d res).env t=if t=d then res.unp d else s.env t:=rfl
@[simp] def take_ob{s:St}{d i:Nat}{res:AV}:(s.take d res).ob i=nG s.yRU (res.fK d) i:=rfl
@[simp] def yLt{s:St}{t:Nat}{ups:List (Option (Nat×Obj))}:(s.turned ups).env t=s.env t:=rfl
@[simp] def yNG{s:St}{i:Nat}{ups:List (Option (Nat×Obj))}:(s.turned ups).ob i=nG s.yRU (ups.filterMap id) i:=rfl
@[simp] def yMh{x:AV}{args:List AV}{t:Nat}:(ykj x args).env t=if t=1000000 then x.ylA 0 else if t=0 then x.ylA 0 else(args[t-1]?).getD .any:=rfl
@[simp] def yOj{x:AV}{args:List AV}{i:Nat}:(ykj x args).ob i=nG noO (x.yd1 0) i:=rfl
@[simp] def noO_at{i:Nat}:noO i=.none:=rfl
@[simp] def cw_n{k:Nat}:cw k []=.sl k []:=rfl
@[simp] def ct_n{k:Nat}:ct k []=.sl k []:=rfl
def yGm(k k' n:Nat)(rows:List (List C)):Obj->Prop
 | .row k0 rs=>k0=k/\k'=k/\rows=rs.take n
 |_=>False
def yDD(k k' n:Nat)(rows:List (List C)):Obj->Prop
 | .row k0 rs=>k0=k/\k'=k/\rows=rs.take n
 | .tr k0 _ rs=>k0=k/\k'=k/\rows=rs.take n
 |_=>False
def yaeo(cs:List C):Obj->Prop
 | .box cells=>cells=cs.map .c/\cs.all C.plain=true
 |_=>False
@[simp] def yNY{k k' n k0:Nat}{rows rs:List (List C)}:yGm k k' n rows (.row k0 rs)=(k0=k/\k'=k/\rows=rs.take n):=rfl
@[simp] def yN3{k k' n k0:Nat}{rows rs:List (List C)}:yDD k k' n rows (.row k0 rs)=(k0=k/\k'=k/\rows=rs.take n):=rfl
@[simp] def yRH{k k' n k0 v:Nat}{rows rs:List (List C)}:yDD k k' n rows (.tr k0 v rs)=(k0=k/\k'=k/\rows=rs.take n):=rfl
@[simp] def yNN{cs:List C}{l:List AV}:yaeo cs (.box l)=(l=cs.map .c/\cs.all C.plain=true):=rfl
section
variable {s:St}
@[simp] def own1_c{x c:C}:yfF s (.c x) c=(c=x/\x.plain=true):=rfl
@[simp] def yJO{k k':Nat}{r:List (List C)}:yfF s (.nil k) (.ow k' r)=(r=[]):=rfl
@[simp] def yJm{k k':Nat}{r:List (List C)}:yfF s (.nil k) (.ot k' r)=(r=[]):=rfl
@[simp] def yJG {id k n k':Nat} {r:List (List C)}:yfF s (.own id k n) (.ow k' r)=yGm k k' n r (s.ob id):=by
 rfl
@[simp] def yJu {id k n k':Nat} {r:List (List C)}:yfF s (.own id k n) (.ot k' r)=yDD k k' n r (s.ob id):=by
 rfl
@[simp] def yaeL {id:Nat} {cs:List C}:yfF s (.box id 0) (.bx cs)=yaeo cs (s.ob id):=by
 rfl
@[simp] def own2_c{x:AV}{c:C}:ygt s x (.c c)=yfF s x c:=rfl
@[simp] def yQ2{l l':List AV}:ygt s (.agg l) (.agg l')=yye s l l':=rfl
@[simp] def yOR:yye s [] []=True:=rfl
@[simp] def yNg {x:AV} {c:C} {l l':List AV}:yye s (x::l) (.c c::l')=(yfF s x c/\yye s l l'):=by
 simp[yye]
@[simp] def yOF:yxx s [] []=True:=rfl
@[simp] def yLm{x y:AV}{l l':List AV}:yxx s (x::l) (y::l')=(ygt s x y/\yxx s l l'):=rfl
@[simp] def oid_own{id k n:Nat}:(AV.own id k n).oid=[id]:=rfl
@[simp] def oid_c{c:C}:(AV.c c).oid=[]:=rfl
@[simp] def oid_nil{n:Nat}:(AV.nil n).oid=[]:=rfl
@[simp] def yRG{id k n:Nat}:(AV.own id k n).yfL=[id]:=rfl
@[simp] def yPs{id n:Nat}:(AV.box id n).yfL=[id]:=rfl
@[simp] def oids_c{c:C}:(AV.c c).yfL=[]:=rfl
@[simp] def yQY{n:Nat}:(AV.nil n).yfL=[]:=rfl
@[simp] def yN7{n:Nat}{r:List (List C)}:(AV.clip n r).yfL=[]:=rfl
@[simp] def yQV{l:List AV}:(AV.agg l).yfL=l.flatMap AV.oid:=rfl
def yB3(s:St)(res x:AV):Prop:=ygt s x res/\x.yfL.Nodup/\(match x with| .tup _=>False|_=>True)
theorem yHa{n:Nat}{res:AV}:ykX s [.t n] res=yB3 s res (s.env n):=by
 grind [ykX,ybW,yef,yB3,yIl]
attribute [simp] yHa
@[simp] def yRN{res:AV}{id k n:Nat}:yB3 s res (.own id k n)=ygt s (.own id k n) res:=by simp[yB3]
@[simp] def yaeN{res:AV}{id n:Nat}:yB3 s res (.box id n)=ygt s (.box id n) res:=by simp[yB3]
@[simp] def ownR_c{res:AV}{c:C}:yB3 s res (.c c)=ygt s (.c c) res:=by simp[yB3]
@[simp] def yPT{res:AV}{k:Nat}:yB3 s res (.nil k)=ygt s (.nil k) res:=by simp[yB3]
def yzi:AV->Prop| .tup _=>False|_=>True
theorem yHG{m n:Nat}{y z:AV}(h1:ygt s (s.env m) y)(h2:ygt s (s.env n) z)(h3:((s.env m).yfL++(s.env n).yfL).Nodup):ykX s [.t m,.t n] (.tup [y,z]):=by
 have nt:∀{x y:AV},ygt s x y->yzi x:=by
  intro x y h;cases x<;>first|trivial|(cases y<;>exact h.elim)
 have e:∀t,yzi (s.env t)->yef s (.t t)=some (s.env t):=by
  grind [yef,yzi]
 have:ybW s [.t m,.t n]=some [s.env m,s.env n]:=by
  grind [ybW]
 unfold ykX;rw[this];exact⟨[y,z],rfl,⟨h1,h2,trivial⟩,by grind⟩
theorem yE5{m n:Nat}{y z:AV}:ykX s [.t m,.t n] (.tup [y,z])=(ygt s (s.env m) y/\ygt s (s.env n) z/\((s.env m).yfL++(s.env n).yfL).Nodup):=by
 refine propext ⟨λh=>?_,λh=>yHG h.1 h.2.1 h.2.2⟩;unfold ykX at h;simp only[ybW,yef]at h;revert h;generalize s.env m=x;generalize s.env n=x';intro h;split at h
 .rename_i xs hxs
  have:xs=[x,x']:=by
   grind
  subst this;obtain⟨ys,e,h1,h2⟩:=h;cases e
  simp_all
 grind
attribute [simp] yE5
def ysa(s:St)(k:Nat)(res:AV):Obj->Prop
 | .box cells=>cells.length=k/\ygt s (.agg cells) res/\(cells.flatMap AV.oid).Nodup
 |_=>False
def yF6(s:St)(k:Nat)(res:AV):AV->Prop
 | .box id 0=>ysa s k res (s.ob id)
 |_=>False
theorem yJU{n k:Nat}{res:AV}:ykX s [.cl n k] res=yF6 s k res (s.env n):=by
 unfold ykX;simp only[ybW,yef];generalize s.env n=x;cases x with
 | box id off=>
  cases off with
  | zero=>
   simp only[yF6];cases s.ob id with
   |box cells=>
    simp only[ysa]
    by_cases h:cells.length=k<;>simp_all [yIl]
   |_=>rfl
  |succ o=>rfl
 |_=>rfl
attribute [simp] yJU
@[simp] def yMK{k id:Nat}{res:AV}:yF6 s k res (.box id 0)=ysa s k res (s.ob id):=rfl
@[simp] def yI9{k:Nat}{res:AV}{cells:List AV}:ysa s k res (.box cells)=(cells.length=k/\ygt s (.agg cells) res/\(cells.flatMap AV.oid).Nodup):=rfl
@[simp] def inP_eq{rs:List RS}{x' res:AV}:inP s rs x' res=(ygt s (s.env 1000000) x'/\(s.env 1000000).yfL.Nodup/\ybG s rs res):=rfl
theorem qH{id id' k k' n:Nat}{rows rows':List (List C)}{c c':C}(h:s.ob id=.row k rows)(h1:id'=id)(h2:k'=k)(h3:n=rows.length)(h4:rows'.length=rows.length)(h5:c=cw k rows)(h6:c'=cw k rows'):ioC s (.own id k n) c c' (some (id',.row k' rows')):=by
 simp_all [ioC]
def sS{c:C}(h:c.plain=true):ioC s (.c c) c c none:=⟨rfl,⟨rfl,h⟩,h,rfl⟩
end
def jA{α β:Type}{f:α->β}{l:List α}:(l.map f).take l.length=l.map f:=zae (by simp)
@[simp] def shr_c{c c':C}:(AV.c c).shr (.c c')=(c.shr=some c'):=rfl
@[simp] def cshr_ow{k:Nat}{r:List (List C)}:(C.ow k r).shr=some (.sl k r):=rfl
@[simp] def cshr_i{n:Int}:(C.i n).shr=some (.i n):=rfl
@[simp] def cshr_b{n:Bool}:(C.b n).shr=some (.b n):=rfl
end Go.Proofs.YtdadkiofenhnbaaGreat
