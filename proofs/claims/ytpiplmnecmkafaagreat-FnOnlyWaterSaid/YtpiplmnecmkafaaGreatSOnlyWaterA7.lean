/- What the law FnOnlyWater stands on: the machine, in short form (names, layout). -/
import Derived.Test.YtpiplmnecmkafaaGreatSOnlyWaterA4
set_option linter.all false
namespace Go.Proofs.YtpiplmnecmkafaaGreat
open Go.RowKit
def AV.ygz:AV->AV->Prop
 | .c y,.c y'=>y.shr=some y'
 | .agg l,.agg l'=>mM (AV.cs l)=some (AV.cs l')/\l'=(AV.cs l').map .c
 |_,_=>False
def AV.yrZ:List AV->List AV->Prop
 |[],[]=>True
 |x::l,y::l'=>x.ygz y/\AV.yrZ l l'
 |_,_=>False
def AV.shr:AV->AV->Prop
 | .tup l,.tup l'=>AV.yrZ l l'
 |x,y=>x.ygz y
theorem sQ.yeH{w:World}{G G':Nat->Prop}{v:Value}{x y:AV}{F:Nat->Prop}(h:sQ w G v x F)(hs:x.ygz y)(h1:∀b,G b->G' b)(h2:∀b,F b->G' b):RV2 w G' noO noB v y:=by
 cases x with
 |c c=>
  cases y with
  |c c'=>exact OT.yeH h hs h1 h2
  |_=>exact hs.elim
 | agg l=>
  cases y with
  |agg l'=>
   obtain⟨arr,e,hsz,Fs,a1,a2,a3⟩:=h;obtain⟨e1,e2⟩:=hs;obtain⟨g1,g2⟩:=yX e1;rw[gX]at g1;have hl:(AV.cs l').length=l'.length:=gX l';refine⟨arr,e,by rw[hsz,g1,gX],λj z hj=>?_⟩;rw[e2,zaq,zak]at hj;obtain⟨c',hc',rfl⟩:=hj;obtain⟨c,hc,hcc⟩:=g2 j c' hc';have hlt:j<l.length:=by rw[<-gX l];exact(zab.1 hc).1
   obtain⟨u,c2,e3,hu,ho⟩:=a1 j _ (zaa hlt);have:=ykI (l:=l) (j:=j) (c:=c2) (by rw[zaa hlt,e3]);rw[hc]at this;cases this;exact⟨u,hu,ho.yeH hcc h1 λb hb=>h2 b (a2 j b hb)⟩
  |_=>exact hs.elim
 |_=>exact h.elim
theorem ymH:∀{l l':List AV},AV.yrZ l l'->l'.length=l.length/\∀(j:Nat) (y:AV),l'[j]?=some y->∃x,l[j]?=some x/\x.ygz y
 |[],[],_=>⟨rfl,λj y hj=>by simp at hj⟩
 |x::l,y::l',h=>by
  obtain⟨h1,h2⟩:=ymH h.2;refine⟨by simp[h1],λj z hj=>?_⟩;cases j with
  |zero=>simp at hj;subst hj;exact⟨x,rfl,h.1⟩
  |succ j=>exact h2 j z (by simpa using hj)
theorem AOk.yeH{w:World}{G G':Nat->Prop}{v:Value}{x y:AV}{F:Nat->Prop}(h:AOk w G v x F)(hs:x.shr y)(h1:∀b,G b->G' b)(h2:∀b,F b->G' b):RV w G' noO noB v y:=by
 cases x with
 | tup l=>
  cases y with
  |tup l'=>
   obtain⟨arr,e,hsz,Fs,a1,a2,a3⟩:=h;obtain⟨g1,g2⟩:=ymH hs;refine⟨arr,e,by rw[hsz,g1],λj z hj=>?_⟩;obtain⟨x,hx,hxz⟩:=g2 j z hj;obtain⟨u,hu,ho⟩:=a1 j x hx;exact⟨u,hu,ho.yeH hxz h1 λb hb=>h2 b (a2 j b hb)⟩
  |_=>exact hs.elim
 | c c=>
  cases y<;>first
   |exact ybb (sQ.yeH (x:=.c c) h hs h1 h2)
   |exact hs.elim
 | agg l=>
  cases y<;>first
   |exact ybb (sQ.yeH (x:=.agg l) h hs h1 h2)
   |exact hs.elim
 |_=>exact h.elim
theorem pM.pure{P:Program}{f:Nat}{args:List AV}{res y:AV}(h:pM P f args res)(hs:res.shr y):lC P f args y:=by
 intro w G hG vs hvs hv;refine(h w G hG vs hvs hv).mono ?_
 rintro e w' ⟨v,F,rfl,hb,hF,hr⟩
 exact⟨v,rfl,hb,hr.yeH hs (λb hb=>hb.1) λb hb=>.inr (hF b hb)⟩
def yab(s:St)(x:AV)(c:C):Prop:=
 match x with
 | .c y=>c=y/\y.plain=true
 | .clip k rows=>c=.sl k rows
 | .nil _=>match c with
  | .ow _ rows=>rows=[]
  | .ot _ rows=>rows=[]
  | .sl _ rows=>rows=[]
  |_=>False
 | .own id k n=>match c with
  | .ow k' rows=>match s.ob id with
   | .row k0 rs=>k0=k/\k'=k/\rows=rs.take n
   |_=>False
  | .ot k' rows=>match s.ob id with
   | .row k0 rs=>k0=k/\k'=k/\rows=rs.take n
   | .tr k0 _ rs=>k0=k/\k'=k/\rows=rs.take n
   |_=>False
  | .sl _ rows=>n=0/\rows=[]
  |_=>False
 | .box id 0=>match c with
  | .bx cs=>match s.ob id with
   | .box cells=>cells=cs.map .c/\cs.all C.plain=true
   |_=>False
  |_=>False
 |_=>False
def AV.oid:AV->List Nat
 | .own id _ _=>[id]
 | .box id _=>[id]
 |_=>[]
def AV.mW:AV->List Nat
 | .agg l=>l.flatMap AV.oid
 |x=>x.oid
def ymq(s:St):List AV->List AV->Prop
 |[],[]=>True
 |x::l,y::l'=>(∃c,y=.c c/\yab s x c)/\ymq s l l'
 |_,_=>False
def yu(s:St)(x y:AV):Prop:=
 match y with
 | .c c=>yab s x c
 | .agg l'=>match x with
  | .agg l=>ymq s l l'
  |_=>False
 |_=>False
def ykx(s:St):List AV->List AV->Prop
 |[],[]=>True
 |x::l,y::l'=>yu s x y/\ykx s l l'
 |_,_=>False
def qV(s:St):RS->Option AV
 | .t n=>match s.env n with
  | .tup _=>none
  |x=>some x
 | .cl n k=>match s.env n with
  | .box id 0=>match s.ob id with
   | .box cells=>if cells.length=k then some (.agg cells)else none
   |_=>none
  |_=>none
 | .c1 n=>match s.env n with
  | .box id 0=>match s.ob id with
   | .box [x]=>some x
   |_=>none
  |_=>none
def kT(s:St):List RS->Option (List AV)
 |[]=>some []
 |r::l=>match qV s r,kT s l with
  |some x,some xs=>some (x::xs)
  |_,_=>none
def ysD(s:St)(res:AV):List AV->Prop
 |[x]=>yu s x res/\x.mW.Nodup
 |xs=>∃ys,res=.tup ys/\ykx s xs ys/\(xs.flatMap AV.mW).Nodup
def yav(s:St)(rs:List RS)(res:AV):Prop:=
 match kT s rs with
 |some xs=>ysD s res xs
 |none=>False
section
variable {P:Program} {g:Ghost} {s:St} {a:Act} {w:World} {L:Lay}
theorem yxw(h:Repr g s a w L){id k n:Nat}{rows:List (List C)}{v:Value}(hO:s.ob id=.row k rows)(hv:RV1 w (Good g s.objs L w) s.objs L v (.own id k n)):
 OT w (Good g s.objs L w) v (.ot k (rows.take n)) (L.fp id):=by
 obtain⟨_,_,ho⟩:=yby h hv (c:=.ow k (rows.take n)) (ids:=[id]) (by simp[pk1,hO]);generalize rows.take n=q at ho|-;cases ho with
 |sh h=>cases h
 |@ow0 a k F=>exact .ot0
 |ow vals h1 h2 h3 h4 h5 h6 h7 h8 h9=>
  exact .ot vals (λ_ _=>noF) h1 h2 h3 h4 h5 h6 h7 (λ_ _ _ h=>h.elim) (λ_ _ _ _ _ h=>h.elim) h8 (λi r hr j c hc=>.sh (h9 i r hr j c hc))
theorem ybI(h:Repr g s a w L){v:Value}{x:AV}{c:C}(hv:RV1 w (Good g s.objs L w) s.objs L v x)(hp:yab s x c):
 ∃F,OT w (Good g s.objs L w) v c F/\∀y,F y->∃i0,i0∈x.oid/\s.objs i0≠.none/\L.fp i0 y:=by
 have zero:∀{A:Option Addr} {v:Value},v=.slice A 0 0->∀k,Rd w (Good g s.objs L w) v (.sl k []):=by
  intro A v e k;subst e;exact yeF
 cases x with
 |c x=>obtain⟨rfl,hpl⟩:=hp;exact⟨noF,.sh hv,λy hy=>hy.elim⟩
 |clip k rows=>cases hp;exact⟨noF,.sh (ycy hv rfl),λy hy=>hy.elim⟩
 |nil k=>
  have e:v=.slice none 0 0:=hv;subst e;cases c<;>first|exact hp.elim|skip
  ·rename_i k' rows;have:rows=[]:=hp;subst this;exact⟨noF,.sh yeF,λy hy=>hy.elim⟩
  ·rename_i k' rows;have:rows=[]:=hp;subst this;exact⟨noF,.ow0,λy hy=>hy.elim⟩
  ·rename_i k' rows;have:rows=[]:=hp;subst this;exact⟨noF,.ot0,λy hy=>hy.elim⟩
 | own id k n=>
  have hl:(s.objs id)≠.none:=by
   obtain⟨m,ho,_⟩:=hv;intro e;rw[e]at ho;cases ho
  cases c<;>first|exact hp.elim|skip
  ·rename_i k' rows;obtain⟨rfl,rfl⟩:=hp;refine⟨noF,.sh ?_,λy hy=>hy.elim⟩;obtain⟨m,ho,hn,hv⟩:=hv;rcases hv with⟨_,_,A0,rfl⟩|⟨b,cap,arr,e,hb,rfl,h1,h2,h3,h4⟩
   ·exact yeF
   ·exact .sl (λ_ _=>default) rfl h1 h2 (by simp) (by simp) (by simp) (by simp)
  ·rename_i k' rows;simp only[yab]at hp;split at hp
   ·rename_i k0 rs hO;obtain⟨rfl,rfl,rfl⟩:=hp;obtain⟨_,_,ho⟩:=yby h hv (c:=.ow k' (rs.take n)) (ids:=[id]) (by simp[pk1,hO]);exact⟨_,ho,λy hy=>⟨id,by simp[AV.oid],hl,hy⟩⟩
   ·exact hp.elim
  ·rename_i k' rows;simp only[yab]at hp;split at hp
   ·rename_i k0 rs hO;obtain⟨rfl,rfl,rfl⟩:=hp;exact⟨_,yxw h hO hv,λy hy=>⟨id,by simp[AV.oid],hl,hy⟩⟩
   ·rename_i k0 ver rs hO;obtain⟨rfl,rfl,rfl⟩:=hp;obtain⟨_,_,ho⟩:=yby h hv (c:=.ot k' (rs.take n)) (ids:=[id]) (by simp[pk1,hO]);exact⟨_,ho,λy hy=>⟨id,by simp[AV.oid],hl,hy⟩⟩
   ·exact hp.elim
 | box id off=>
  cases off with
  |succ o=>exact hp.elim
  | zero=>
   cases c<;>first|exact hp.elim|skip
   rename_i cs;simp only[yab]at hp;split at hp
   ·rename_i cells hO;obtain⟨rfl,hpl⟩:=hp;obtain⟨b,cells',hO',hb,rfl⟩:=hv;obtain⟨arr,e,r1,r2,r3⟩:=h.box hO hb;have hl:s.objs id≠.none:=by rw[show s.objs id=_ from hO];simp
    refine⟨L.fp id,.bx (λj=>(arr[j]?).getD default) (λ_=>noF) r1 (by simpa using r2) (.inl hb) (λ_ _ h=>h.elim) (λ_ _ _ h=>h.elim) (λj c hc=>?_) (λj c hc=>?_),λy hy=>⟨id,by simp[AV.oid],hl,hy⟩⟩
    ·obtain⟨u,hu,_⟩:=r3 j (.c c) (by simp[hc]);rw[hu];rfl
    ·obtain⟨u,hu,hr⟩:=r3 j (.c c) (by simp[hc]);rw[hu];exact .sh hr
   ·exact hp.elim
 |_=>exact hp.elim
theorem ypV(h:Repr g s a w L):∀{l l':List AV} {us:List Value},ymq s l l'->
 (∀(j:Nat) (x:AV),l[j]?=some x->∃u,us[j]?=some u/\RV1 w (Good g s.objs L w) s.objs L u x)->(l.flatMap AV.oid).Nodup->
 ∃Fs:Nat->Nat->Prop,l'.length=l.length/\(∀(j:Nat) (y:AV),l'[j]?=some y->∃u c,y=.c c/\us[j]?=some u/\OT w (Good g s.objs L w) u c (Fs j))/\
  (∀j y,Fs j y->∃i0,i0∈l.flatMap AV.oid/\s.objs i0≠.none/\L.fp i0 y)/\(∀j j' y,Fs j y->Fs j' y->j=j')
 |[],[],us,_,_,_=>⟨λ_=>noF,rfl,λj c hj=>by simp at hj,λ_ _ h=>h.elim,λ_ _ _ h=>h.elim⟩
 | x::l,y::l',us,hp,hv,hnd=>by
  obtain⟨⟨c,rfl,hc⟩,hp2⟩:=hp;obtain⟨u0,hu0,hr0⟩:=hv 0 x rfl;obtain⟨F0,hF0,hF0i⟩:=ybI h hr0 hc;rw[zbt]at hnd;have hnd':=zaU.1 hnd
  obtain⟨Fs,e1,e2,e3,e4⟩:=ypV h (us:=us.tail) hp2 (λj y hj=>by
   obtain⟨u,hu,hr⟩:=hv (j+1) y (by simpa using hj);exact⟨u,by simpa[zba]using hu,hr⟩) hnd'.2.1
  refine⟨λj=>match j with|0=>F0|j+1=>Fs j,by simp[e1],λj y' hj=>?_,λj y hy=>?_,λj j' y hy hy'=>?_⟩
  ·cases j with
   |zero=>simp at hj;subst hj;exact⟨u0,c,rfl,hu0,hF0⟩
   |succ j=>
    obtain⟨u,c',hc',hu,hr⟩:=e2 j y' (by simpa using hj);exact⟨u,c',hc',by simpa[zba]using hu,hr⟩
  ·rw[zbt];cases j with
   |zero=>obtain⟨i0,m1,m2⟩:=hF0i y hy;exact⟨i0,zaT _ m1,m2⟩
   |succ j=>obtain⟨i0,m1,m2⟩:=e3 j y hy;exact⟨i0,zaw _ m1,m2⟩
  ·have cross:∀j,F0 y->Fs j y->False:=by
    intro j q1 q2;obtain⟨i0,m1,m2,m3⟩:=hF0i y q1;obtain⟨i1,n1,n2,n3⟩:=e3 j y q2;have:=h.inj i0 i1 y m2 n2 m3 n3;subst this;exact hnd'.2.2 i0 m1 i0 n1 rfl
   cases j with
   |zero=>cases j' with
    |zero=>rfl
    |succ j'=>exact(cross j' hy hy').elim
   |succ j=>cases j' with
    |zero=>exact(cross j hy' hy).elim
    |succ j'=>rw[e4 j j' y hy hy']
theorem ymc{x:AV}{c:C}(h:yab s x c):x.bF=true:=by
 cases x<;>first|rfl|exact h.elim
theorem ygV(h:Repr g s a w L){v:Value}{x y:AV}(hv:RVs g s w L v x)(hp:yu s x y)(hnd:x.mW.Nodup):
 ∃F,sQ w (Good g s.objs L w) v y F/\∀b,F b->∃i0,i0∈x.mW/\s.objs i0≠.none/\L.fp i0 b:=by
 cases y with
 |c c=>
  have hck:=ymc hp;obtain⟨F,h1,h2⟩:=ybI h (hv.one1 hck) hp;refine⟨F,h1,λb hb=>?_⟩;obtain⟨i0,m1,m2⟩:=h2 b hb;refine⟨i0,?_,m2⟩;cases x<;>first|exact m1|simp[AV.oid]at m1
 | agg l'=>
  cases x with
  |agg l=>
   obtain⟨arr,e,hs,hl⟩:=hv;obtain⟨Fs,e1,e2,e3,e4⟩:=ypV h (us:=arr.toList) hp (λj x hj=>by obtain⟨u,hu,hr⟩:=hl j x hj;exact⟨u,by simpa using hu,hr⟩) hnd;refine⟨λb=>∃j,Fs j b,⟨arr,e,by rw[hs,e1],Fs,λj y hj=>?_,λj b hb=>⟨j,hb⟩,e4⟩,λb hb=>let⟨j,hj⟩:=hb;e3 j b hj⟩;obtain⟨u,c,hc,hu,ho⟩:=e2 j y hj;exact⟨u,c,hc,by simpa using hu,ho⟩
  |_=>exact hp.elim
 |_=>exact hp.elim
theorem yhx(h:Repr g s a w L):∀{l l':List AV} {us:List Value},ykx s l l'->
 (∀(j:Nat) (x:AV),l[j]?=some x->∃u,us[j]?=some u/\RVs g s w L u x)->(l.flatMap AV.mW).Nodup->
 ∃Fs:Nat->Nat->Prop,l'.length=l.length/\(∀(j:Nat) (y:AV),l'[j]?=some y->∃u,us[j]?=some u/\sQ w (Good g s.objs L w) u y (Fs j))/\
  (∀j y,Fs j y->∃i0,i0∈l.flatMap AV.mW/\s.objs i0≠.none/\L.fp i0 y)/\(∀j j' y,Fs j y->Fs j' y->j=j')
 |[],[],us,_,_,_=>⟨λ_=>noF,rfl,λj c hj=>by simp at hj,λ_ _ h=>h.elim,λ_ _ _ h=>h.elim⟩
 | x::l,y::l',us,hp,hv,hnd=>by
  obtain⟨hp1,hp2⟩:=hp;obtain⟨u0,hu0,hr0⟩:=hv 0 x rfl;rw[zbt]at hnd;have hnd':=zaU.1 hnd;obtain⟨F0,hF0,hF0i⟩:=ygV h hr0 hp1 hnd'.1
  obtain⟨Fs,e1,e2,e3,e4⟩:=yhx h (us:=us.tail) hp2 (λj y hj=>by
   obtain⟨u,hu,hr⟩:=hv (j+1) y (by simpa using hj);exact⟨u,by simpa[zba]using hu,hr⟩) hnd'.2.1
  refine⟨λj=>match j with|0=>F0|j+1=>Fs j,by simp[e1],λj y' hj=>?_,λj y hy=>?_,λj j' y hy hy'=>?_⟩
  ·cases j with
   |zero=>simp at hj;subst hj;exact⟨u0,hu0,hF0⟩
   |succ j=>
    obtain⟨u,hu,hr⟩:=e2 j y' (by simpa using hj);exact⟨u,by simpa[zba]using hu,hr⟩
  ·rw[zbt];cases j with
   |zero=>obtain⟨i0,m1,m2⟩:=hF0i y hy;exact⟨i0,zaT _ m1,m2⟩
   |succ j=>obtain⟨i0,m1,m2⟩:=e3 j y hy;exact⟨i0,zaw _ m1,m2⟩
  ·have cross:∀j,F0 y->Fs j y->False:=by
    intro j q1 q2;obtain⟨i0,m1,m2,m3⟩:=hF0i y q1;obtain⟨i1,n1,n2,n3⟩:=e3 j y q2;have:=h.inj i0 i1 y m2 n2 m3 n3;subst this;exact hnd'.2.2 i0 m1 i0 n1 rfl
   cases j with
   |zero=>cases j' with
    |zero=>rfl
    |succ j'=>exact(cross j' hy hy').elim
   |succ j=>cases j' with
    |zero=>exact(cross j hy' hy).elim
    |succ j'=>rw[e4 j j' y hy hy']
theorem yrL(h:Repr g s a w L){r:ResultVar}{q:RS}{x:AV}(hq:ybg P r=some q)(hx:qV s q=some x):∃v,(yaB a.tmps r).run P w=.ok v w/\RVs g s w L v x:=by
 cases r with
 | tmp t=>
  simp only[ybg]at hq;split at hq
  ·rename_i hlt;cases hq;have:=h.at_ hlt;simp only[qV]at hx;split at hx
   ·cases hx
   ·cases hx;exact⟨_,rfl,this⟩
  ·cases hq
 | cell t ty=>
  simp only[ybg]at hq;split at hq
  case isFalse=>cases hq
  rename_i hlt;have hen:=h.at_ hlt;split at hq
  ·rename_i k h1 h2;cases hq;simp only[qV]at hx;split at hx
   ·rename_i id hid;rw[hid]at hen;obtain⟨b,cells',hO',hb,e1⟩:=hen;split at hx
    ·rename_i cells hO;split at hx
     ·rename_i hk;cases hx;obtain⟨arr,e,b1,b2,b3⟩:=h.box hO hb;have hr:=ycU (P:=P) (w:=w) h1 h2 (ad:=⟨b,0,none⟩) (us:=arr.toList) (by simp;omega) (λj u hu=>by rw[add_lit,zaR,cell_of w b1];simpa using hu);exact⟨.agg arr,by simp[yaB,e1,asAddr,hr],arr,rfl,b2,b3⟩
     ·cases hx
    ·cases hx
   ·cases hx
  ·rename_i k h1 h2;cases hq;simp only[qV]at hx;split at hx
   ·rename_i id hid;rw[hid]at hen;obtain⟨b,cells',hO',hb,e1⟩:=hen;split at hx
    ·rename_i x' hO;cases hx;obtain⟨arr,e,b1,b2,b3⟩:=h.box hO hb;obtain⟨u,hu,hru⟩:=b3 0 _ rfl;have hr:=yc0 (P:=P) (w:=w) h1 (ad:=⟨b,0,none⟩) (u:=u) (by rw[cell_of w b1];exact hu);exact⟨u,by simp[yaB,e1,asAddr,hr],.of1 hru⟩
    ·cases hx
   ·cases hx
  ·cases hq
theorem yfg(h:Repr g s a w L):∀{l:List ResultVar} {rs:List RS} {xs:List AV},kS P l=some rs->kT s rs=some xs->
 ∃vs:List Value,(l.mapM (yaB a.tmps)).run P w=.ok vs w/\vs.length=xs.length/\vs.length=rs.length/\∀(j:Nat) (x:AV),xs[j]?=some x->∃u,vs[j]?=some u/\RVs g s w L u x
 |[],rs,xs,hc,hx=>by
  cases hc;cases hx;exact⟨[],by simp,rfl,rfl,λj y hj=>by simp at hj⟩
 | r::l,rs,xs,hc,hx=>by
  simp only[kS]at hc;split at hc
  ·rename_i q qs h1 h2;cases hc;simp only[kT]at hx;split at hx
   ·rename_i x xs' x1 x2;cases hx;obtain⟨v,hv,hr⟩:=yrL h h1 x1;obtain⟨vs,e1,e2,e3,e4⟩:=yfg h h2 x2;refine⟨v::vs,by simp[List.mapM_cons,hv,e1],by simp[e2],by simp[e3],λj z hj=>?_⟩;cases j with
    |zero=>simp at hj;subst hj;exact⟨v,rfl,hr⟩
    |succ j=>exact e4 j z (by simpa using hj)
   ·cases hx
  ·cases hc
theorem yuu(h:Repr g s a w L){fn:Func}{rs:List RS}{res:AV}(hc:kS P fn.results.toList=some rs)(hy:yav s rs res):
 ∃v F,(results fn a.tmps).run P w=.ok v w/\AOk w (Good g s.objs L w) v res F/\∀b,F b->∃i0,s.objs i0≠.none/\L.fp i0 b:=by
 unfold yav at hy;split at hy
 case h_2=>exact hy.elim
 rename_i xs hxs;obtain⟨vs,e1,e2,e3,e4⟩:=yfg h hc hxs;unfold ysD at hy;split at hy
 ·rename_i x;obtain⟨hy,hnd⟩:=hy;obtain⟨u,hu,hr⟩:=e4 0 x rfl;obtain⟨F,k1,k2⟩:=ygV h hr hy hnd
  match vs,e2,hu with
  |[u'],_,hu=>
   simp at hu;subst hu;refine⟨_,F,fV e1,?_,λb hb=>let⟨i0,_,m⟩:=k2 b hb;⟨i0,m⟩⟩;cases res<;>first|exact k1|exact k1.elim
 ·rename_i hne;obtain⟨ys,rfl,hy,hnd⟩:=hy;obtain⟨Fs,f1,f2,f3,f4⟩:=yhx h (us:=vs) hy e4 hnd
  have hl:vs.toArray.size≠1:=by
   intro e;have:xs.length=1:=by rw[<-e2];simpa using e
   match xs,this,hne with
   |[r],_,hne=>exact hne r rfl
  refine⟨_,λb=>∃j,Fs j b,fV e1,?_,λb hb=>let⟨j,hj⟩:=hb;let⟨i0,_,m⟩:=f3 j b hj;⟨i0,m⟩⟩;rw[dif_neg hl];refine⟨vs.toArray,rfl,by simp[e2,f1],Fs,λj y hj=>?_,λj b hb=>⟨j,hb⟩,f4⟩;obtain⟨u,hu,hr⟩:=f2 j y hj;exact⟨u,by simpa using hu,hr⟩
theorem sQ.mono{w w':World}{G G':Nat->Prop}{v:Value}{x:AV}{F F':Nat->Prop}(h:sQ w G v x F)(hG:∀b,G b->G' b)
 (hc:∀(ad:Addr) (u:Value),G ad.block->w.cell? ad=some u->w'.cell? ad=some u) (hF:∀b,F b->F' b) (hh:∀b,F b->w'.heap[b]?=w.heap[b]?):sQ w' G' v x F':=by
 cases x with
 |c c=>exact OT.mono h hG hc hF hh
 |agg l=>
  obtain⟨arr,e,hs,Fs,h1,h2,h3⟩:=h;refine⟨arr,e,hs,Fs,λj y hy=>?_,λj b hb=>hF b (h2 j b hb),h3⟩;obtain⟨u,c,rfl,hu,ho⟩:=h1 j y hy;exact⟨u,c,rfl,hu,ho.mono hG hc (λ_ h=>h) λb hb=>hh b (h2 j b hb)⟩
 |_=>exact h.elim
theorem AOk.mono{w w':World}{G G':Nat->Prop}{v:Value}{x:AV}{F F':Nat->Prop}(h:AOk w G v x F)(hG:∀b,G b->G' b)
 (hc:∀(ad:Addr) (u:Value),G ad.block->w.cell? ad=some u->w'.cell? ad=some u) (hF:∀b,F b->F' b) (hh:∀b,F b->w'.heap[b]?=w.heap[b]?):AOk w' G' v x F':=by
 cases x with
 |tup l=>
  obtain⟨arr,e,hs,Fs,h1,h2,h3⟩:=h;exact⟨arr,e,hs,Fs,λj y hy=>let⟨u,hu,ho⟩:=h1 j y hy;⟨u,hu,ho.mono hG hc (λ_ h=>h) λb hb=>hh b (h2 j b hb)⟩,λj b hb=>hF b (h2 j b hb),h3⟩
 |c c=>exact sQ.mono (x:=.c c) h hG hc hF hh
 |agg l=>exact sQ.mono (x:=.agg l) h hG hc hF hh
 |_=>exact h.elim
end
theorem ys6{P:Program}{f N:Nat}{c:SC}{rs:List RS}{args:List AV}{res:AV}(hf:Has P f N c rs)(hN:args.length<=N)
 (H:yM args->wpS P N c (ybE args) (λe s=>match e with| .exit _=>False|_=>yav s rs res)):pM P f args res:=by
 obtain⟨fn,code,h1,h2,h3,⟨fl,h4⟩,h5⟩:=hf.ok;intro w G hG vs hvs hv
 have hwf:yM args:=yaO args λx hx=>by
  obtain⟨j,hj⟩:=zam hx;obtain⟨u,_,hr⟩:=hv j x hj;exact ypW hr
 refine calls_of_wp h1 h2 ?_
 let g:Ghost:=⟨w,G,noF,N,#[]⟩
 let L0:Lay:=⟨noB,λ_=>noF⟩
 have hgood:∀b,G b->Good g noO L0 w b:=λb hb=>⟨.inl (.inl hb),λid hid=>absurd rfl hid⟩
 have hinit:Repr g (ybE args) {tmps:=vs++Array.replicate (fn.ntmps-vs.size) undef,defers:=[]} w L0:=by
  refine⟨by simp[g];omega,hf.small,rfl,Off.refl _ _,hG,λb hb=>hb.elim,λb hb h=>h.elim,λt=>?_,λid=>trivial,λid b hid=>absurd rfl hid,λi j b hi=>absurd rfl hi,λi b hi=>absurd rfl hi⟩
  show RV _ _ _ _ _ ((args[t]?).getD .any)
  cases ht:args[t]? with
  |none=>trivial
  | some x=>
   obtain⟨u,hu,hr⟩:=hv t x ht;have hlt:t<vs.size:=(zay.1 hu).1;have hsm:=hf.small
   have:g.val {tmps:=vs++Array.replicate (fn.ntmps-vs.size) undef,defers:=[]} t=u:=by
    unfold Ghost.val;rw[if_pos (by omega),zai,zaS hlt,hu];rfl
   rw[this];exact ya5 (O:=noO) hgood hr
 refine Code.wp_mono ?_ (yA (g:=g) rfl h4 (H hwf) hinit);intro e a' w' hl
 have fin:∀s blk,yav s rs res->Repr g s a' w' blk->a'.defers=[]/\∃v,(results fn a'.tmps).run P w'=.ok v w'/\(∃v' F,Ending.returned v=.returned v'/\Below w.heap.size w w'/\(∀b,F b->w.heap.size<=b/\b<w'.heap.size)/\AOk w' (λb=>(G b\/(w.heap.size<=b/\b<w'.heap.size))/\¬F b) v' res F):=by
  intro s blk hr h;obtain⟨v,F,e1,e2,e3⟩:=yuu h h5 hr;refine⟨h.defers,v,e1,v,F,rfl,Off.below h.below,λb hb=>?_,e2.mono (λb hb=>⟨hb.1.elim (λh=>h.elim .inl λh=>h.elim) .inr,λhF=>?_⟩) (λ_ _ _ h=>h) (λ_ h=>h) (λ_ _=>rfl)⟩
  ·obtain⟨i0,m1,m2⟩:=e3 b hb;obtain⟨n1,n2⟩:=h.new i0 b m1 m2;rcases n1 with n1|n1
   ·exact n1.elim
   ·exact⟨n1,n2⟩
  ·obtain⟨i0,m1,m2⟩:=e3 b hF;exact hb.2 i0 m1 m2
 cases e with
 |normal=>obtain⟨s,blk,hr,h⟩:=hl;exact fin s blk hr h
 |exit id=>obtain⟨s,blk,hr,h⟩:=hl;exact hr.elim
 |ret=>obtain⟨s,blk,hr,h⟩:=hl;exact fin s blk hr h
 |goto l=>exact hl.elim
 |panic ch=>exact hl.elim
 |outgrown=>exact hl.elim
end Go.Proofs.YtpiplmnecmkafaaGreat
namespace Go.Proofs.YtpiplmnecmkafaaGreat
open Go.RowKit
def cw(k:Nat):List (List C)->C
 |[]=>.sl k []
 |r::l=>.ow k (r::l)
def ct(k:Nat):List (List C)->C
 |[]=>.sl k []
 |r::l=>.ot k (r::l)
def InF(P:Program)(f:Nat)(x x':AV)(args:List AV)(res:AV):Prop:=
 ∀ (w:World) (G F:Nat->Prop),(∀b,G b->b<w.heap.size)->(∀b,F b->b<w.heap.size)->(∀b,G b->¬F b)->∀(vs:Array Value) (v0:Value),vs.size=args.length+1->vs[0]?=some v0->sQ w G v0 x F->
  (∀(j:Nat) (y:AV),args[j]?=some y->∃u:Value,vs[j+1]?=some u/\RV w G noO noB u y)->
  Calls P f vs w λe w'=>∃v F',e=.returned v/\Off F w w'/\(∀b,F' b->F b\/(w.heap.size<=b/\b<w'.heap.size))/\
   sQ w' (λb=>((G b\/F b)\/(w.heap.size<=b/\b<w'.heap.size))/\¬F' b) v0 x' F'/\RV w' noF noO noB v res
def ioC(s:St)(x:AV)(c c':C)(up:Option (Nat×Obj)):Prop:=
 match x with
 | .own id k n=>match s.ob id,up with
  | .row k0 rows,some (id',.row k' rows')=>id'=id/\k0=k/\k'=k/\n=rows.length/\rows'.length=rows.length/\c=cw k rows/\c'=cw k rows'
  | .tr k0 ver rows,some (id',.tr k' ver' rows')=>id'=id/\k0=k/\k'=k/\ver'=ver+1/\n=rows.length/\rows'.length=rows.length/\c=ct k rows/\c'=ct k rows'
  |_,_=>False
 |x=>up=none/\yab s x c/\c.plain=true/\c'=c
def ioL(s:St):List AV->List C->List C->List (Option (Nat×Obj))->Prop
 |[],[],[],[]=>True
 |x::l,c::cs,c'::cs',up::ups=>ioC s x c c' up/\ioL s l cs cs' ups
 |_,_,_,_=>False
theorem ys7{k:Nat}{rows:List (List C)}(h:0<rows.length):cw k rows=.ow k rows:=by cases rows<;>simp_all [cw]
theorem ytT{k:Nat}{rows:List (List C)}(h:0<rows.length):ct k rows=.ot k rows:=by cases rows<;>simp_all [ct]
theorem yyW{k:Nat}{rows:List (List C)}(h:rows.length=0):cw k rows=.sl k []:=by cases rows<;>simp_all [cw]
theorem yy2{k:Nat}{rows:List (List C)}(h:rows.length=0):ct k rows=.sl k []:=by cases rows<;>simp_all [ct]
theorem ypt{s:St}:∀{l:List AV} {cs cs':List C} {ups:List (Option (Nat×Obj))},ioL s l cs cs' ups->cs.length=l.length/\cs'.length=l.length/\ups.length=l.length
 |[],[],[],[],_=>⟨rfl,rfl,rfl⟩
 |x::l,c::cs,c'::cs',up::ups,h=>by obtain⟨a,b,c⟩:=ypt h.2;simp[a,b,c]
theorem ypQ{s:St}:∀{l:List AV} {cs cs':List C} {ups:List (Option (Nat×Obj))},ioL s l cs cs' ups->∀{j:Nat} {x:AV} {c c':C} {up:Option (Nat×Obj)},l[j]?=some x->cs[j]?=some c->cs'[j]?=some c'->ups[j]?=some up->ioC s x c c' up
 |[],[],[],[],_,j,x,c,c',up,h1,_,_,_=>by simp at h1
 |x::l,c::cs,c'::cs',up::ups,h,0,_,_,_,_,h1,h2,h3,h4=>by simp at h1 h2 h3 h4;subst h1 h2 h3 h4;exact h.1
 |x::l,c::cs,c'::cs',up::ups,h,j+1,_,_,_,_,h1,h2,h3,h4=>ypQ h.2 (j:=j) (by simpa using h1) (by simpa using h2) (by simpa using h3) (by simpa using h4)
section
variable {g:Ghost} {s:St} {a:Act} {w:World} {L:Lay}
def given(s:St)(L:Lay)(ids:List Nat)(b:Nat):Prop:=∃id,id∈ids/\(∃k m,(s.objs id).xJ=some (k,m)/\0<m)/\L.fp id b
def iP(ups:List (Option (Nat×Obj))):List Nat:=(ups.filterMap id).map (·.1)
theorem nV{ids:List Nat}{b:Nat}(h:given s L ids b):∃id,id∈ids/\s.objs id≠.none/\L.fp id b:=by
 obtain⟨id,h1,⟨k,m,h2,_⟩,h3⟩:=h;exact⟨id,h1,λe=>(by rw[e]at h2;cases h2),h3⟩
theorem yxW{ups:List (Option (Nat×Obj))}{p:Nat×Obj}(h:p∈ups.filterMap id):∃j:Nat,ups[j]?=some (some p):=by
 obtain⟨x,hx,e⟩:=zdc.1 h;obtain⟨j,hj⟩:=zam hx;exact⟨j,by rw[hj,show x=some p from e]⟩
theorem ylr{ups:List (Option (Nat×Obj))}{p:Nat×Obj}{j:Nat}(h:ups[j]?=some (some p)):p∈ups.filterMap id:=
 zdc.2 ⟨some p,zac h,rfl⟩
theorem yof:∀{ups:List (Option (Nat×Obj))},(iP ups).Nodup->∀{j j':Nat} {p p':Nat×Obj},ups[j]?=some (some p)->ups[j']?=some (some p')->p.1=p'.1->j=j'
 |[],_,j,j',p,p',h,_,_=>by simp at h
 | up::ups,hn,j,j',p,p',h,h',e=>by
  have hn2:(iP ups).Nodup:=by
   cases up with
   |none=>simpa[iP]using hn
   |some q=>simp only[iP,zcZ,id]at hn;exact(zca.1 hn).2
  have hd:∀{i:Nat} {q q':Nat×Obj},up=some q->ups[i]?=some (some q')->q.1≠q'.1:=by
   intro i q q' e1 e2;subst e1;simp only[iP,zcZ,id,zaD]at hn;intro e3;exact(zca.1 hn).1 (e3▸zaA (ylr e2))
  cases j with
  |zero=>cases j' with
   |zero=>rfl
   |succ j'=>simp at h;exact(hd h (by simpa using h') e).elim
  |succ j=>cases j' with
   |zero=>simp at h';exact(hd h' (by simpa using h) e.symm).elim
   |succ j'=>rw[yof hn2 (j:=j) (j':=j') (by simpa using h) (by simpa using h') e]
theorem yuM(h:Repr g s a w L){v:Value}{x:AV}{c c':C}{up:Option (Nat×Obj)}(hv:RV1 w (Good g s.objs L w) s.objs L v x)(hp:ioC s x c c' up):
 ∃F,OT w (Good g s.objs L w) v c F/\∀b,F b->∃p,up=some p/\(∃k m,(s.objs p.1).xJ=some (k,m)/\0<m)/\L.fp p.1 b:=by
 cases x with
 | own id k n=>
  simp only[ioC]at hp;split at hp
  ·rename_i k0 rows id' k' rows' hO;obtain⟨rfl,rfl,rfl,rfl,hl,rfl,rfl⟩:=hp;rcases zaK rows.length with h0|h0
   ·rw[yyW h0];obtain⟨F,h1,h2⟩:=ybI h hv (c:=.sl k' []) ⟨h0,rfl⟩;cases h1 with
    |sh h1=>exact⟨noF,.sh h1,λb hb=>hb.elim⟩
   ·rw[ys7 h0];obtain⟨_,hl2,ho⟩:=yby h hv (c:=.ow k' (rows.take rows.length)) (ids:=[id']) (by simp[pk1,hO]);rw[zbL]at ho;exact⟨_,ho,λb hb=>⟨_,rfl,⟨k',rows.length,by rw[show s.objs id'=_ from hO];rfl,h0⟩,hb⟩⟩
  ·rename_i k0 ver rows id' k' ver' rows' hO;obtain⟨rfl,rfl,rfl,rfl,rfl,hl,rfl,rfl⟩:=hp;rcases zaK rows.length with h0|h0
   ·rw[yy2 h0];obtain⟨F,h1,h2⟩:=ybI h hv (c:=.sl k' []) ⟨h0,rfl⟩;cases h1 with
    |sh h1=>exact⟨noF,.sh h1,λb hb=>hb.elim⟩
   ·rw[ytT h0];obtain⟨_,hl2,ho⟩:=yby h hv (c:=.ot k' (rows.take rows.length)) (ids:=[id']) (by simp[pk1,hO]);rw[zbL]at ho;exact⟨_,ho,λb hb=>⟨_,rfl,⟨k',rows.length,by rw[show s.objs id'=_ from hO];rfl,h0⟩,hb⟩⟩
  ·exact hp.elim
 |box id off=>
  obtain⟨_,hp,hpl,_⟩:=hp;cases off<;>cases c<;>first|exact hp.elim|simp[C.plain]at hpl
 |c _=>obtain⟨_,hp,hpl,_⟩:=hp;obtain⟨F,h1,_⟩:=ybI h hv hp;exact⟨noF,.sh (h1.rd hpl),λb hb=>hb.elim⟩
 |nil _=>obtain⟨_,hp,hpl,_⟩:=hp;obtain⟨F,h1,_⟩:=ybI h hv hp;exact⟨noF,.sh (h1.rd hpl),λb hb=>hb.elim⟩
 |clip _ _=>obtain⟨_,hp,hpl,_⟩:=hp;obtain⟨F,h1,_⟩:=ybI h hv hp;exact⟨noF,.sh (h1.rd hpl),λb hb=>hb.elim⟩
 |_=>obtain⟨_,hp,hpl,_⟩:=hp;exact hp.elim
theorem ysr(h:Repr g s a w L){w':World}{G':Nat->Prop}{F':Nat->Prop}{X:Nat->Prop}{v:Value}{x:AV}{c c':C}{p:Nat×Obj}(hv:RV1 w (Good g s.objs L w) s.objs L v x)(hp:ioC s x c c' (some p))
 (hoff:Off X w w') (ho:OT w' G' v c' F'):
 s.objs p.1≠.none/\(s.objs p.1).like p.2/\(∀k v rows,s.objs p.1=.tr k v rows->p.2≠.tr k v rows)/\p.2≠.none/\
 ∃S':Nat->Prop,(∀b,L.root p.1=some b->¬S' b)/\
  ((∀b,(L.root p.1=some b\/S' b)->F' b)\/((∃k,(s.objs p.1).xJ=some (k,0))/\∀b,(L.root p.1=some b\/S' b)->L.fp p.1 b))/\
  ∀(G'':Nat->Prop) (O:Nat->Obj) (B:Nat->Option Nat),(∀b,G' b->G'' b)->(∀b,Good g s.objs L w b->G'' b)->jL w' G'' O B S' (L.root p.1) p.2:=by
 cases x with
 | own id k n=>
  generalize hup:some p=up at hp;simp only[ioC]at hp;split at hp
  ·rename_i k0 rows id' k' rows' hO;cases hup;obtain⟨rfl,rfl,rfl,hnn,hl,rfl,rfl⟩:=hp;have hO':s.objs id'=.row k' rows:=hO;refine⟨by rw[hO'];simp,by rw[hO'];exact⟨rows'.length,rfl,by omega⟩,λk v r e=>(by rw[hO']at e;cases e),by simp,?_⟩;rcases zaK rows.length with h0|h0
   ·have e1:rows=[]:=zaZ.1 h0;have e2:rows'=[]:=zaZ.1 (by omega);subst e1 e2;refine⟨noF,λ_ _ h=>h,.inr ⟨⟨k',by rw[hO'];rfl⟩,λb hb=>?_⟩,λG'' O B hG hG2=>?_⟩
    ·rcases hb with hb|hb
     ·exact .inl hb
     ·exact hb.elim
    ·cases hr:L.root id' with
     |none=>exact .inl ⟨rfl,rfl⟩
     |some b=>
      obtain⟨arr,e,r1,r2,r3,r4⟩:=h.row hO hr;obtain⟨arr',q1,q2⟩:=hoff.any r1;exact .inr ⟨b,arr',e,rfl,q1,by simp,by simp,λi r j c hi=>by simp at hi⟩
   ·have h0':0<rows'.length:=by omega
    rw[ys7 h0']at ho;obtain⟨m,hd,hle,hv⟩:=hv;rcases hv with⟨_,e0,_⟩|⟨b,cap,arr,e,hb,rfl,h1,h2,h3,h4⟩
    ·omega
    ·cases ho with
     |sh hr=>cases hr
     |ow0=>omega
     |@ow b0 len cap0 k0 rows0 arr2 e2 F0 vals g1 g2 g3 g4 g5 g6 g7 g8 g9=>
      have hsz:rows'.length*k'<=arr2.size:=zbh (zaj k' (by omega)) g5;have hb':L.root id'=some b:=hb;refine⟨noF,λ_ _ h=>h,.inl λx hx=>?_,λG'' O B hG hG2=>.inr ⟨b,arr2,e2,hb',g1,hsz,g6,λi r j c hr hc=>⟨_,g8 i r hr j c hc,(g9 i r hr j c hc).mono hG (λ_ _ _ h=>h)⟩⟩⟩;rcases hx with hx|hx
      ·rw[hb']at hx;cases hx;exact g7
      ·exact hx.elim
  ·rename_i k0 ver rows id' k' ver' rows' hO;cases hup;obtain⟨rfl,rfl,rfl,rfl,hnn,hl,rfl,rfl⟩:=hp;have hO':s.objs id'=.tr k' ver rows:=hO;refine⟨by rw[hO'];simp,by rw[hO'];exact⟨rfl,by omega,by omega,λe=>by omega⟩,λk v r e=>(by rw[hO']at e;cases e;intro e2;simp at e2),by simp,?_⟩;rcases zaK rows.length with h0|h0
   ·have e1:rows=[]:=zaZ.1 h0;have e2:rows'=[]:=zaZ.1 (by omega);subst e1 e2;refine⟨noF,λ_ _ h=>h,.inr ⟨⟨k',by rw[hO'];rfl⟩,λb hb=>?_⟩,λG'' O B hG hG2=>?_⟩
    ·rcases hb with hb|hb
     ·exact .inl hb
     ·exact hb.elim
    ·cases hr:L.root id' with
     |none=>exact .inl ⟨rfl,rfl⟩
     |some b=>
      obtain⟨arr,e,r1,r2,r3,r4⟩:=h.tree hO hr;obtain⟨arr',q1,q2⟩:=hoff.any r1;exact .inr ⟨b,arr',e,rfl,q1,by simp,by simp,λ_ _=>default,λ_ _=>noF,λ_ _ _ h=>h.elim,λ_ _ _ _ _ h=>h.elim,λi r hi=>by simp at hi,λi r hi=>by simp at hi⟩
   ·have h0':0<rows'.length:=by omega
    rw[ytT h0']at ho;obtain⟨m,hd,hle,hv⟩:=hv;rcases hv with⟨_,e0,_⟩|⟨b,cap,arr,e,hb,rfl,h1,h2,h3,h4⟩
    ·omega
    ·cases ho with
     |sh hr=>cases hr
     |ot0=>omega
     | @ot b0 len cap0 k0 rows0 arr2 e2 F0 vals Fs g1 g2 g3 g4 g5 g6 g7 g8 g9 g10 g11=>
      have hsz:rows'.length*k'<=arr2.size:=zbh (zaj k' (by omega)) g5;have hb':L.root id'=some b:=hb;refine⟨λx=>∃i j,Fs i j x,λx hx=>?_,.inl λx hx=>?_,λG'' O B hG hG2=>.inr ⟨b,arr2,e2,hb',g1,hsz,g6,vals,Fs,λi j x hx=>⟨⟨i,j,hx⟩,(g8 i j x hx).2⟩,g9,g10,λi r hr j c hc=>(g11 i r hr j c hc).mono hG (λ_ _ _ h=>h) (λ_ h=>h) (λ_ _=>rfl)⟩⟩
      ·rw[hb']at hx;cases hx
       rintro⟨i,j,hx⟩
       exact(g8 i j _ hx).2 rfl
      ·rcases hx with hx|⟨i,j,hx⟩
       ·rw[hb']at hx;cases hx;exact g7
       ·exact(g8 i j x hx).1
  ·exact hp.elim
 |_=>obtain⟨hp,_⟩:=hp;cases hp
theorem Repr.handed(h:Repr g s a w L){l:List AV}{us:List Value}{cs cs':List C}{ups:List (Option (Nat×Obj))}(hio:ioL s l cs cs' ups)(hn:(iP ups).Nodup)
 (hus:∀(j:Nat) (x:AV),l[j]?=some x->∃u,us[j]?=some u/\RV1 w (Good g s.objs L w) s.objs L u x):
 (∃Fs:Nat->Nat->Prop,(∀(j:Nat) (c:C),cs[j]?=some c->∃u,us[j]?=some u/\OT w (Good g s.objs L w) u c (Fs j))/\(∀j b,Fs j b->given s L (iP ups) b)/\(∀j j' b,Fs j b->Fs j' b->j=j'))/\
 ∀{w':World} {F':Nat->Prop} {Fs':Nat->Nat->Prop},Off (given s L (iP ups)) w w'->(∀b,F' b->given s L (iP ups) b\/(w.heap.size<=b/\b<w'.heap.size))->
  (∀(j:Nat) (c:C),cs'[j]?=some c->∃u,us[j]?=some u/\OT w' (λb=>((Good g s.objs L w b\/given s L (iP ups) b)\/(w.heap.size<=b/\b<w'.heap.size))/\¬F' b) u c (Fs' j))->(∀j b,Fs' j b->F' b)->(∀j j' b,Fs' j b->Fs' j' b->j=j')->
  ∃L',Repr g ⟨s.env,rF s.objs (ups.filterMap id)⟩ a w' L':=by
 obtain⟨n1,n2,n3⟩:=ypt hio
 have at_:∀{j:Nat} {x:AV},l[j]?=some x->∃c c' up,cs[j]?=some c/\cs'[j]?=some c'/\ups[j]?=some up/\ioC s x c c' up:=by
  intro j x hx;have hlt:=(zab.1 hx).1;have e1:cs[j]?=some (cs[j]'(by omega)):=zaa (by omega);have e2:cs'[j]?=some (cs'[j]'(by omega)):=zaa (by omega);have e3:ups[j]?=some (ups[j]'(by omega)):=zaa (by omega);exact⟨_,_,_,e1,e2,e3,ypQ hio hx e1 e2 e3⟩
 constructor
 ·have key:∀j:Nat,∃F:Nat->Prop,(∀c,cs[j]?=some c->∃u,us[j]?=some u/\OT w (Good g s.objs L w) u c F)/\∀b,F b->∃p:Nat×Obj,ups[j]?=some (some p)/\(∃k m,(s.objs p.1).xJ=some (k,m)/\0<m)/\L.fp p.1 b:=by
   intro j
   by_cases hj:j<l.length
   ·obtain⟨c,c',up,e1,e2,e3,e4⟩:=at_ (zaa hj);obtain⟨u,hu,hr⟩:=hus j _ (zaa hj);obtain⟨F,f1,f2⟩:=yuM h hr e4;refine⟨F,λc0 hc0=>⟨u,hu,by rw[e1]at hc0;cases hc0;exact f1⟩,λb hb=>?_⟩;obtain⟨p,hp,r⟩:=f2 b hb;exact⟨p,by rw[e3,hp],r⟩
   ·exact⟨noF,λc hc=>by have:=(zab.1 hc).1;omega,λb hb=>hb.elim⟩
  refine⟨λj=>(key j).choose,λj c hc=>(key j).choose_spec.1 c hc,λj b hb=>?_,λj j' b hb hb'=>?_⟩
  ·obtain⟨p,h1,h2,h3⟩:=(key j).choose_spec.2 b hb;exact⟨p.1,zaA (ylr h1),h2,h3⟩
  ·obtain⟨p,h1,⟨k,m,h2,_⟩,h3⟩:=(key j).choose_spec.2 b hb;obtain⟨p',h1',⟨k',m',h2',_⟩,h3'⟩:=(key j').choose_spec.2 b hb';have:=h.inj p.1 p'.1 b (λe=>by rw[e]at h2;cases h2) (λe=>by rw[e]at h2';cases h2') h3 h3';exact yof hn h1 h1' this
 ·intro w' F' Fs' hoff hF' hot hsub hdis;generalize hX:given s L (iP ups)=X at *;have hXe:∀b,X b->given s L (iP ups) b:=λb hb=>by rw[hX];exact hb
  have good_X:∀b,Good g s.objs L w b->¬X b:=by
   intro b hb hx;obtain⟨id,_,h2,h3⟩:=nV (hXe b hx);exact hb.2 id h2 h3
  have hcell:∀(ad:Addr) (u:Value),Good g s.objs L w ad.block->w.cell? ad=some u->w'.cell? ad=some u:=by
   intro ad u hg hc;rw[World.cell?_of_block (hoff.block ad.block (aW h hg) (good_X _ hg))];exact hc
  have post:∀{j:Nat} {p:Nat×Obj},ups[j]?=some (some p)->s.objs p.1≠.none/\(s.objs p.1).like p.2/\(∀k v rows,s.objs p.1=.tr k v rows->p.2≠.tr k v rows)/\p.2≠.none/\
   ∃S':Nat->Prop,(∀b,L.root p.1=some b->¬S' b)/\
   ((∀b,(L.root p.1=some b\/S' b)->Fs' j b)\/((∃k,(s.objs p.1).xJ=some (k,0))/\∀b,(L.root p.1=some b\/S' b)->L.fp p.1 b))/\
   ∀(G'':Nat->Prop) (O:Nat->Obj) (B:Nat->Option Nat),(∀b,((Good g s.objs L w b\/X b)\/(w.heap.size<=b/\b<w'.heap.size))/\¬F' b->G'' b)->(∀b,Good g s.objs L w b->G'' b)->jL w' G'' O B S' (L.root p.1) p.2:=by
   intro j p hp;have hlt:j<l.length:=by have:=(zab.1 hp).1;omega
   obtain⟨c,c',up,e1,e2,e3,e4⟩:=at_ (zaa hlt);rw[hp]at e3;cases e3;obtain⟨u,hu,hr⟩:=hus j _ (zaa hlt);obtain⟨u',hu',ho⟩:=hot j c' e2;rw[hu]at hu';cases hu';exact ysr h hr e4 hoff ho
  let ids:=iP ups
  have find:∀i,i∈ids->∃(j:Nat) (p:Nat×Obj),ups[j]?=some (some p)/\p.1=i:=by
   intro i hi;obtain⟨p,hp,e⟩:=zaO.1 hi;obtain⟨j,hj⟩:=yxW hp;exact⟨j,p,hj,e⟩
  have sub_:∀i,∃S':Nat->Prop,∀(j:Nat) (p:Nat×Obj),ups[j]?=some (some p)->p.1=i->(∀b,L.root p.1=some b->¬S' b)/\
   ((∀b,(L.root p.1=some b\/S' b)->Fs' j b)\/((∃k,(s.objs p.1).xJ=some (k,0))/\∀b,(L.root p.1=some b\/S' b)->L.fp p.1 b))/\
   ∀(G'':Nat->Prop) (O:Nat->Obj) (B:Nat->Option Nat),(∀b,((Good g s.objs L w b\/X b)\/(w.heap.size<=b/\b<w'.heap.size))/\¬F' b->G'' b)->(∀b,Good g s.objs L w b->G'' b)->jL w' G'' O B S' (L.root p.1) p.2:=by
   intro i
   by_cases hi:i∈ids
   ·obtain⟨j,p,hj,e⟩:=find i hi;obtain⟨_,_,_,_,S',q1,q2,q3⟩:=post hj;refine⟨S',λj' p' hj' e'=>?_⟩;have:j'=j:=yof hn hj' hj (e'.trans e.symm);subst this;rw[hj]at hj';cases hj';exact⟨q1,q2,q3⟩
   ·exact⟨noF,λj p hj e=>absurd (e▸zaA (ylr hj)) hi⟩
  let S2:=λi=>(sub_ i).choose
  have hS2:=λi=>(sub_ i).choose_spec
  let L':Lay:=⟨L.root,λi=>if i∈ids then S2 i else L.sub i⟩
  have sb:∀i,L'.sub i=if i∈ids then S2 i else L.sub i:=λi=>rfl
  have O':∀{j:Nat} {p:Nat×Obj},ups[j]?=some (some p)->rF s.objs (ups.filterMap id) p.1=p.2:=λhj=>pR hn _ (ylr hj)
  have fp':∀{i b},i∈ids->L'.fp i b->(L.root i=some b\/S2 i b):=by
   intro i b hi hf;unfold Lay.fp at hf;rw[sb,if_pos hi]at hf;exact hf
  have livei:∀i,i∈ids->s.objs i≠.none:=by
   intro i hi;obtain⟨j,p,hj,rfl⟩:=find i hi;exact(post hj).1
  have newX:∀{b},X b->¬(w.heap.size<=b):=by
   intro b hb hle;obtain⟨id,_,h2,h3⟩:=nV (hXe b hb);have:=(h.new id b h2 h3).2;omega
  have zz:∀{i j b k},i∈ids->s.objs j≠.none->(s.objs j).xJ=some (k,0)->L.fp j b->F' b->False:=by
   intro i j b k hi hlj hdj hfj hF;rcases hF' b hF with hx|⟨hx,_⟩
   ·obtain⟨id,_,⟨k2,m,h2,h2'⟩,h3⟩:=hXe b hx;have:=h.inj j id b hlj (λe=>by rw[e]at h2;cases h2) hfj h3;rw[<-this,hdj]at h2;cases h2;omega
   ·have:=(h.new j b hlj hfj).2;omega
  have key:=h.yfR [] (λi=>i∈ids) (objs':=rF s.objs (ups.filterMap id)) (w':=w') (L':=L') (X:=X) hoff
   (λq hq=>let⟨id,h1,h2,h3⟩:=nV (hXe q hq);⟨id,.inl h1,h2,h3⟩)
   (λi hi=>⟨by rw[lU hi];simp[Obj.jM],rfl,by rw[sb,if_neg hi]⟩)
   (λi b hi _ hf=>by
    obtain⟨j,p,hj,rfl⟩:=find i hi;obtain⟨q1,q2,q3⟩:=hS2 p.1 j p hj rfl;rcases q2 with q2|⟨_,q2⟩
    ·rcases hF' b (hsub j b (q2 b (fp' hi hf)))with e|e
     ·obtain⟨id,h1,h2,h3⟩:=nV (hXe b e);exact .inl ⟨id,.inl h1,h2,h3⟩
     ·exact .inr e
    ·exact .inl ⟨p.1,.inl hi,livei p.1 hi,q2 b (fp' hi hf)⟩)
   (λi i' b hi hi' _ _ hf hf'=>by
    obtain⟨j,p,hj,rfl⟩:=find i hi;obtain⟨j',p',hj',rfl⟩:=find i' hi';obtain⟨_,q2,_⟩:=hS2 p.1 j p hj rfl;obtain⟨_,q2',_⟩:=hS2 p'.1 j' p' hj' rfl;rcases q2 with q2|⟨⟨k,hk⟩,q2⟩<;>rcases q2' with q2'|⟨⟨k',hk'⟩,q2'⟩
    ·have:=hdis j j' b (q2 b (fp' hi hf)) (q2' b (fp' hi' hf'));subst this;rw[hj]at hj';cases hj';rfl
    ·exact(zz hi (livei _ hi') hk' (q2' b (fp' hi' hf')) (hsub j b (q2 b (fp' hi hf)))).elim
    ·exact(zz hi' (livei _ hi) hk (q2 b (fp' hi hf)) (hsub j' b (q2' b (fp' hi' hf')))).elim
    ·exact h.inj _ _ b (livei _ hi) (livei _ hi') (q2 b (fp' hi hf)) (q2' b (fp' hi' hf')))
   (λi b hi _ hr=>by
    obtain⟨j,p,hj,rfl⟩:=find i hi;rw[sb,if_pos hi];exact(hS2 p.1 j p hj rfl).1 b hr)
   (λi hi _ _=>by
    obtain⟨j,p,hj,rfl⟩:=find i hi;rw[O' hj];exact⟨(post hj).2.1,rfl⟩)
   (λi k v rows hi _ hk=>by
    obtain⟨j,p,hj,rfl⟩:=find i hi;rw[O' hj];exact(post hj).2.2.1 k v rows hk)
   (λG' K hN hM i hi=>by
    obtain⟨j,p,hj,rfl⟩:=find i hi;rw[O' hj,sb,if_pos hi];refine(hS2 p.1 j p hj rfl).2.2 G' _ _ (λb hb=>?_) K.good;obtain⟨e1,e2⟩:=hb;rcases e1 with(e1|e1)|e1
    ·exact K.good b e1
    ·refine hM b (let⟨id,q1,q2,q3⟩:=nV (hXe b e1);⟨id,.inl q1,q2,q3⟩) λi hi _ hf=>e2 ?_;obtain⟨j,p,hj,rfl⟩:=find i hi;obtain⟨_,q2,_⟩:=hS2 p.1 j p hj rfl;rcases q2 with q2|⟨⟨k,hk⟩,q2⟩
     ·exact hsub j b (q2 b (fp' hi hf))
     ·obtain⟨id,_,⟨k2,m,h2,h2'⟩,h3⟩:=hXe b e1;have:=h.inj p.1 id b (livei _ hi) (λe=>by rw[e]at h2;cases h2) (q2 b (fp' hi hf)) h3;rw[<-this,hk]at h2;cases h2;omega
    ·refine hN b e1.1 e1.2 λi hi _ hf=>e2 ?_;obtain⟨j,p,hj,rfl⟩:=find i hi;obtain⟨_,q2,_⟩:=hS2 p.1 j p hj rfl;rcases q2 with q2|⟨_,q2⟩
     ·exact hsub j b (q2 b (fp' hi hf))
     ·have:=(h.new p.1 b (livei _ hi) (q2 b (fp' hi hf))).2;omega)
  exact⟨L',key.1⟩
theorem ynF(h:Repr g s a w L){ids:List Nat}{b:Nat}(hb:given s L ids b):b<w.heap.size:=by
 obtain⟨id,_,h2,h3⟩:=nV hb;exact(h.new id b h2 h3).2
end
section
variable {P:Program} {f:Nat} {s:St} {d:Option Nat} {avs args:List AV} {res:AV} {K:St->Prop}
def St.turned(s:St)(ups:List (Option (Nat×Obj))):St:=⟨s.env,rF s.objs (ups.filterMap id)⟩
theorem ysN{x0 x x':AV}{l:List AV}{cs cs':List C}{ups:List (Option (Nat×Obj))}(hp:InF P f x x' args res)(ho:sJ s avs args)(hdat:avs.all AV.rP=true)(hs:res.scalar=true)
 (hio:ioL s l cs cs' ups) (hn:(iP ups).Nodup)
 (hin:∀(w:World) (G:Nat->Prop) (B:Nat->Option Nat) (v:Value),RV w G s.objs B v x0->∃us:List Value,us.length=l.length/\(∀(j:Nat) (x:AV),l[j]?=some x->∃u,us[j]?=some u/\RV1 w G s.objs B u x)/\
  (∀(w:World) (G F:Nat->Prop) (Fs:Nat->Nat->Prop),(∀(j:Nat) (c:C),cs[j]?=some c->∃u,us[j]?=some u/\OT w G u c (Fs j))->(∀j b,Fs j b->F b)->(∀j j' b,Fs j b->Fs j' b->j=j')->sQ w G v x F)/\
  (∀(w:World) (G F:Nat->Prop),sQ w G v x' F->∃Fs:Nat->Nat->Prop,(∀(j:Nat) (c:C),cs'[j]?=some c->∃u,us[j]?=some u/\OT w G u c (Fs j))/\(∀j b,Fs j b->F b)/\(∀j j' b,Fs j b->Fs j' b->j=j')))
 (hK:K ((s.turned ups).put d res)):gW P f (x0::avs) d s K:=by
 intro g a w blk h hd vs hvs hv;obtain⟨h1,h2⟩:=qQ ho;obtain⟨v0,hv0,hr0⟩:=hv 0 x0 rfl;obtain⟨us,u0,u1,u2,u3⟩:=hin w _ _ v0 hr0;obtain⟨⟨Fs,a1,a2,a3⟩,a4⟩:=h.handed hio hn u1;have hFlt:∀b,given s blk (iP ups) b->b<w.heap.size:=λb hb=>ynF h hb;refine(hp w (Good g s.objs blk w) (given s blk (iP ups)) (λb hb=>aW h hb) hFlt (λb hb hx=>?_) vs v0 (by simp at hvs;omega) hv0 (u2 w _ _ Fs a1 a2 a3) (λj y hj=>?_)).mono ?_
 ·obtain⟨id,_,h2,h3⟩:=nV hx;exact hb.2 id h2 h3
 ·obtain⟨x,hx,hxy⟩:=h2 j y hj;obtain⟨u,hu,hru⟩:=hv (j+1) x (by simpa using hx);exact⟨u,hu,ydF (λ_ h=>h) hru (zae.1 hdat x (zac hx)) hxy⟩
 ·rintro e w' ⟨v,F',rfl,hoff,hF',hx',hr⟩
  obtain⟨Fs',b1,b2,b3⟩:=u3 w' _ _ hx';obtain⟨L',hL⟩:=a4 hoff hF' b1 b2 b3;exact⟨v,rfl,_,L',hK,hL.put hd (yD hs hr)⟩
theorem yma{x0:AV}{c c':C}{up:Option (Nat×Obj)}(hp:InF P f (.c c) (.c c') args res)(ho:sJ s avs args)(hdat:avs.all AV.rP=true)(hs:res.scalar=true)
 (hio:ioC s x0 c c' up) (hK:K ((s.turned [up]).put d res)):gW P f (x0::avs) d s K:=by
 have hck:x0.bF=true:=by
  cases x0<;>first
   |rfl
   |(obtain⟨_,hp,_⟩:=hio;exact hp.elim)
 refine ysN (l:=[x0]) (cs:=[c]) (cs':=[c']) (ups:=[up]) hp ho hdat hs ⟨hio,trivial⟩ (by cases up<;>simp[iP]) (λw G B v hr=>⟨[v],rfl,λj x hj=>?_,λw G F Fs e1 e2 e3=>?_,λw G F ha=>?_⟩) hK
 ·cases j with
  |zero=>
   simp at hj;subst hj;refine⟨v,rfl,?_⟩;cases x0<;>first|exact hr|simp[AV.bF]at hck
  |succ j=>simp at hj
 ·obtain⟨u,hu,ho⟩:=e1 0 c rfl;simp at hu;subst hu;exact OT.mono ho (λ_ h=>h) (λ_ _ _ h=>h) (e2 0) (λ_ _=>rfl)
 ·refine⟨λj b=>j=0/\F b,λj x hj=>?_,λj b hb=>hb.2,λj j' b hb hb'=>hb.1.trans hb'.1.symm⟩;cases j with
  |zero=>simp at hj;subst hj;exact⟨v,rfl,OT.mono ha (λ_ h=>h) (λ_ _ _ h=>h) (λ_ h=>⟨rfl,h⟩) (λ_ _=>rfl)⟩
  |succ j=>simp at hj
end
def yc5(x:AV)(args:List AV):St:=⟨λt=>if t=1000000 then x.yeE 0 else if t=0 then x.yeE 0 else(args[t-1]?).getD .any,rF noO (x.yJ 0)⟩
def inP(s:St)(rs:List RS)(x' res:AV):Prop:=yu s (s.env 1000000) x'/\(s.env 1000000).mW.Nodup/\ycM s rs res
theorem yrP{P:Program}{f N:Nat}{c:SC}{rs:List RS}{x x':AV}{args:List AV}{res:AV}(hf:Has P f N c rs)(hN:args.length+1<=N)(hn:((x.yJ 0).map (·.1)).Nodup)(hsc:res.scalar=true)
 (H:yM args->wpS P N c (yc5 x args) (λe s=>match e with| .exit _=>False|_=>inP s rs x' res)):InF P f x x' args res:=by
 obtain⟨fn,code,h1,h2,h3,⟨fl,h4⟩,h5⟩:=hf.ok;intro w G F hG hF hGF vs v0 hvs hv0 hx hv
 have hwf:yM args:=yaO args λx hx=>by
  obtain⟨j,hj⟩:=zam hx;obtain⟨u,_,hr⟩:=hv j x hj;exact ypW hr
 refine calls_of_wp h1 h2 ?_;obtain⟨R,S,a1,a2,a3,a4,a5⟩:=hx.lays hn;generalize hl:x.yJ 0=l at *
 let g:Ghost:=⟨w,G,F,N,#[v0]⟩
 let ids:=l.map (·.1)
 let L0:Lay:=⟨λi=>if i∈ids then R i else none,λi=>if i∈ids then S i else noF⟩
 have hobj:(yc5 x args).objs=rF noO l:=by simp[yc5,hl]
 have mem:∀i,i∈ids->∃p,p∈l/\p.1=i:=λi hi=>by obtain⟨p,hp,e⟩:=zaO.1 hi;exact⟨p,hp,e⟩
 have dead:∀i,i∉ids->rF noO l i=.none:=λi hi=>lU hi;have rt:∀i,i∈ids->L0.root i=R i:=λi hi=>if_pos hi;have sb:∀i,i∈ids->L0.sub i=S i:=λi hi=>if_pos hi
 have fps:∀i b,rF noO l i≠.none->L0.fp i b->i∈ids/\(R i=some b\/S i b):=by
  intro i b hi hf
  by_cases hm:i∈ids
  ·unfold Lay.fp at hf;rw[rt i hm,sb i hm]at hf;exact⟨hm,hf⟩
  ·exact absurd (dead i hm) hi
 have hgood:∀b,G b->Good g (rF noO l) L0 w b:=by
  intro b hb;refine⟨.inl (.inl hb),λi hi hf=>?_⟩;obtain⟨hm,hf⟩:=fps i b hi hf;obtain⟨p,hp,rfl⟩:=mem i hm;exact hGF b hb (a1 p hp b hf)
 have hinit:Repr g (yc5 x args) {tmps:=vs++Array.replicate (fn.ntmps-vs.size) undef,defers:=[]} w L0:=by
  refine⟨by simp[g];omega,hf.small,rfl,Off.refl _ _,hG,hF,hGF,λt=>?_,λid=>?_,λid b hid hfp=>?_,λi j b hi hj hfi hfj=>?_,λi b hi hr=>?_⟩
  ·rw [hobj];have hsm:=hf.small
   have hx0:RV w (Good g (rF noO l) L0 w) (rF noO l) L0 v0 (x.yeE 0):=by
    refine ybb (a4 _ _ _ hgood λp hp=>⟨pR hn p hp,rt _ (zaA hp)⟩)
   have val:∀u,vs[t]?=some u->g.val {tmps:=vs++Array.replicate (fn.ntmps-vs.size) undef,defers:=[]} t=u:=by
    intro u hu;have hlt:t<vs.size:=(zay.1 hu).1;unfold Ghost.val;rw[if_pos (by unfold nJ at *;omega),zai,zaS hlt,hu];rfl
   show RV _ _ _ _ _ (if t=1000000 then x.yeE 0 else if t=0 then x.yeE 0 else(args[t-1]?).getD .any)
   split
   ·rename_i e;subst e
    have:g.val {tmps:=vs++Array.replicate (fn.ntmps-vs.size) undef,defers:=[]} 1000000=v0:=by
     unfold Ghost.val;rw[if_neg (by unfold nJ;omega)];simp[g,nJ]
    rw[this];exact hx0
   ·split
    ·rename_i e;subst e;rw[val v0 hv0];exact hx0
    ·rename_i e1 e2;cases ht:args[t-1]? with
     |none=>trivial
     |some y=>
      obtain⟨u,hu,hr⟩:=hv (t-1) y ht;rw[show t-1+1=t by omega]at hu;rw[val u hu];exact ya5 (O:=rF noO l) hgood hr
  ·rw[hobj]
   by_cases hm:id∈ids
   ·obtain⟨p,hp,rfl⟩:=mem id hm;rw[pR hn p hp,sb _ hm,show L0.root p.1=_ from rt _ hm];exact a5 _ _ _ hgood p hp
   ·rw[dead id hm];trivial
  ·rw[hobj]at hid;obtain⟨hm,hfp⟩:=fps id b hid hfp;obtain⟨p,hp,rfl⟩:=mem id hm;have:=a1 p hp b hfp;exact⟨.inl this,hF b this⟩
  ·rw[hobj]at hi hj;obtain⟨hm,hfi⟩:=fps i b hi hfi;obtain⟨hm',hfj⟩:=fps j b hj hfj;obtain⟨p,hp,rfl⟩:=mem i hm;obtain⟨q,hq,rfl⟩:=mem j hm';exact a3 p q hp hq b hfi hfj
  ·rw[hobj]at hi;obtain⟨hm,_⟩:=fps i b hi (.inl hr);obtain⟨p,hp,rfl⟩:=mem i hm;rw[rt _ hm]at hr;rw[sb _ hm];exact a2 p hp b hr
 refine Code.wp_mono ?_ (yA (g:=g) rfl h4 (H hwf) hinit);intro e a' w' hl
 have fin:∀s blk,inP s rs x' res->Repr g s a' w' blk->a'.defers=[]/\∃v,(results fn a'.tmps).run P w'=.ok v w'/\(∃v' F',Ending.returned v=.returned v'/\Off F w w'/\(∀b,F' b->F b\/(w.heap.size<=b/\b<w'.heap.size))/\
  sQ w' (λb=>((G b\/F b)\/(w.heap.size<=b/\b<w'.heap.size))/\¬F' b) v0 x' F'/\RV w' noF noO noB v' res):=by
  rintro s blk ⟨hs1,hs2,hs3⟩ h
  obtain⟨v,e1,e2⟩:=ylE h h5 hs3;have hsl:=h.env 1000000;have hv:g.val a' 1000000=v0:=by unfold Ghost.val;rw[if_neg (by unfold nJ;omega)];simp[g,nJ]
  rw[hv]at hsl;obtain⟨F',k1,k2⟩:=ygV h hsl hs1 hs2;refine⟨h.defers,v,e1,v,F',rfl,h.below,λb hb=>?_,k1.mono (λb hb=>⟨hb.1,λhF=>?_⟩) (λ_ _ _ h=>h) (λ_ h=>h) (λ_ _=>rfl),yD hsc e2⟩
  ·obtain⟨i0,_,m1,m2⟩:=k2 b hb;obtain⟨n1,n2⟩:=h.new i0 b m1 m2;rcases n1 with n1|n1
   ·exact .inl n1
   ·exact .inr ⟨n1,n2⟩
  ·obtain⟨i0,_,m1,m2⟩:=k2 b hF;exact hb.2 i0 m1 m2
 cases e with
 |normal=>obtain⟨s,blk,hr,h⟩:=hl;exact fin s blk hr h
 |exit id=>obtain⟨s,blk,hr,h⟩:=hl;exact hr.elim
 |ret=>obtain⟨s,blk,hr,h⟩:=hl;exact fin s blk hr h
 |goto l=>exact hl.elim
 |panic ch=>exact hl.elim
 |outgrown=>exact hl.elim
end Go.Proofs.YtpiplmnecmkafaaGreat
namespace Go.Proofs.YtpiplmnecmkafaaGreat
open Go.RowKit
def C.full:C->Bool
 | .ow _ (_::_)=>true
 | .ot _ (_::_)=>true
 |_=>false
section
variable {g:Ghost} {s:St} {a:Act} {w:World} {L:Lay}
end
section
variable {P:Program} {f:Nat} {s:St} {d:Option Nat} {avs args:List AV} {res:AV} {K:St->Prop}
end
end Go.Proofs.YtpiplmnecmkafaaGreat
namespace Go.Proofs.YtpiplmnecmkafaaGreat
open Go.RowKit
@[simp] theorem unp_c{d:Nat}{c:C}:(AV.c c).unp d=c.unp d:=rfl
@[simp] theorem unp_agg{d:Nat}{l:List AV}:(AV.agg l).unp d=.agg (yfp d 0 (AV.cs l)):=rfl
@[simp] theorem unp_tup{d:Nat}{l:List AV}:(AV.tup l).unp d=.tup (ygA d 0 l):=rfl
@[simp] theorem unp1_c{d:Nat}{c:C}:(AV.c c).yeE d=c.unp d:=rfl
@[simp] theorem yEi{d:Nat}{l:List AV}:(AV.agg l).yeE d=.agg (yfp d 0 (AV.cs l)):=rfl
@[simp] theorem unpO_c{d:Nat}{c:C}:(AV.c c).lG d=c.lG d:=rfl
@[simp] theorem yFe{d:Nat}{l:List AV}:(AV.agg l).lG d=ybT d 0 (AV.cs l):=rfl
@[simp] theorem yE6{d:Nat}{l:List AV}:(AV.tup l).lG d=ybR d 0 l:=rfl
@[simp] theorem unpO1_c{d:Nat}{c:C}:(AV.c c).yJ d=c.lG d:=rfl
@[simp] theorem yA0{d:Nat}{l:List AV}:(AV.agg l).yJ d=ybT d 0 (AV.cs l):=rfl
@[simp] theorem yCE{d j:Nat}:yfp d j []=[]:=rfl
@[simp] theorem yAx{d j:Nat}{c:C}{l:List C}:yfp d j (c::l)=c.unp (sid d j)::yfp d (j+1) l:=rfl
@[simp] theorem yz7{d j:Nat}:ybT d j []=[]:=rfl
@[simp] theorem yxS{d j:Nat}{c:C}{l:List C}:ybT d j (c::l)=c.lG (sid d j)++ybT d (j+1) l:=rfl
@[simp] theorem yDZ{d j:Nat}:ygA d j []=[]:=rfl
@[simp] theorem yzE{d j:Nat}{c:AV}{l:List AV}:ygA d j (c::l)=c.yeE (tid d j)::ygA d (j+1) l:=rfl
@[simp] theorem yBr{d j:Nat}:ybR d j []=[]:=rfl
@[simp] theorem yys{d j:Nat}{c:AV}{l:List AV}:ybR d j (c::l)=c.yJ (tid d j)++ybR d (j+1) l:=rfl
@[simp] theorem cs_nil:AV.cs []=[]:=rfl
@[simp] theorem yEj{c:C}{l:List AV}:AV.cs (.c c::l)=c::AV.cs l:=rfl
attribute [simp] yo5 sid tid
@[simp] theorem cunp_i{d:Nat}{n:Int}:(C.i n).unp d=.c (.i n):=rfl
@[simp] theorem cunp_b{d:Nat}{n:Bool}:(C.b n).unp d=.c (.b n):=rfl
@[simp] theorem cunp_u{d:Nat}{n:Nat}:(C.u n).unp d=.c (.u n):=rfl
@[simp] theorem cunp_q{d:Nat}{n:Nat}:(C.q n).unp d=.c (.q n):=rfl
@[simp] theorem cunp_s{d:Nat}{n:ByteArray}:(C.s n).unp d=.c (.s n):=rfl
@[simp] theorem cunp_sl{d k:Nat}{r:List (List C)}:(C.sl k r).unp d=.c (.sl k r):=rfl
@[simp] theorem cunp_ow{d k:Nat}{r:List (List C)}:(C.ow k r).unp d=.own d k r.length:=rfl
@[simp] theorem cunp_ot{d k:Nat}{r:List (List C)}:(C.ot k r).unp d=.own d k r.length:=rfl
@[simp] theorem cunpO_i{d:Nat}{n:Int}:(C.i n).lG d=[]:=rfl
@[simp] theorem cunpO_b{d:Nat}{n:Bool}:(C.b n).lG d=[]:=rfl
@[simp] theorem cunpO_u{d:Nat}{n:Nat}:(C.u n).lG d=[]:=rfl
@[simp] theorem cunpO_q{d:Nat}{n:Nat}:(C.q n).lG d=[]:=rfl
@[simp] theorem cunpO_s{d:Nat}{n:ByteArray}:(C.s n).lG d=[]:=rfl
@[simp] theorem yC9{d k:Nat}{r:List (List C)}:(C.sl k r).lG d=[]:=rfl
@[simp] theorem yFj{d k:Nat}{r:List (List C)}:(C.ow k r).lG d=[(d,.row k r)]:=rfl
@[simp] theorem yCx{d k:Nat}{r:List (List C)}:(C.ot k r).lG d=[(d,.tr k 0 r)]:=rfl
@[simp] theorem yy8{O:Nat->Obj}{i:Nat}:rF O [] i=O i:=rfl
@[simp] theorem yvO{O:Nat->Obj}{k i:Nat}{o:Obj}{l:List (Nat×Obj)}:rF O ((k,o)::l) i=if i=k then o else rF O l i:=rfl
@[simp] theorem yCK{s:St}{d t:Nat}{res:AV}:(s.take d res).env t=if t=d then res.unp d else s.env t:=rfl
@[simp] theorem take_ob{s:St}{d i:Nat}{res:AV}:(s.take d res).ob i=rF s.objs (res.lG d) i:=rfl
@[simp] theorem yAt{s:St}{d i:Nat}{res:AV}:(s.take d res).objs i=rF s.objs (res.lG d) i:=rfl
@[simp] theorem yyl{s:St}{t:Nat}{ups:List (Option (Nat×Obj))}:(s.turned ups).env t=s.env t:=rfl
@[simp] theorem yzY{s:St}{i:Nat}{ups:List (Option (Nat×Obj))}:(s.turned ups).ob i=rF s.objs (ups.filterMap id) i:=rfl
@[simp] theorem yvr{s:St}{i:Nat}{ups:List (Option (Nat×Obj))}:(s.turned ups).objs i=rF s.objs (ups.filterMap id) i:=rfl
@[simp] theorem fm_nil:([]:List (Option (Nat×Obj))).filterMap id=[]:=rfl
@[simp] theorem fm_some{p:Nat×Obj}{l:List (Option (Nat×Obj))}:(some p::l).filterMap id=p::l.filterMap id:=rfl
@[simp] theorem fm_none{l:List (Option (Nat×Obj))}:((none:Option (Nat×Obj))::l).filterMap id=l.filterMap id:=rfl
@[simp] theorem ywO{x:AV}{args:List AV}{t:Nat}:(yc5 x args).env t=if t=1000000 then x.yeE 0 else if t=0 then x.yeE 0 else(args[t-1]?).getD .any:=rfl
@[simp] theorem yzy{x:AV}{args:List AV}{i:Nat}:(yc5 x args).ob i=rF noO (x.yJ 0) i:=rfl
@[simp] theorem yv6{x:AV}{args:List AV}{i:Nat}:(yc5 x args).objs i=rF noO (x.yJ 0) i:=rfl
@[simp] theorem noO_at{i:Nat}:noO i=.none:=rfl
@[simp] theorem cw_n{k:Nat}:cw k []=.sl k []:=rfl
@[simp] theorem cw_c{k:Nat}{r:List C}{l:List (List C)}:cw k (r::l)=.ow k (r::l):=rfl
@[simp] theorem ct_n{k:Nat}:ct k []=.sl k []:=rfl
@[simp] theorem ct_c{k:Nat}{r:List C}{l:List (List C)}:ct k (r::l)=.ot k (r::l):=rfl
def ysw(k k' n:Nat)(rows:List (List C)):Obj->Prop
 | .row k0 rs=>k0=k/\k'=k/\rows=rs.take n
 |_=>False
def ypp(k k' n:Nat)(rows:List (List C)):Obj->Prop
 | .row k0 rs=>k0=k/\k'=k/\rows=rs.take n
 | .tr k0 _ rs=>k0=k/\k'=k/\rows=rs.take n
 |_=>False
def ytP(cs:List C):Obj->Prop
 | .box cells=>cells=cs.map .c/\cs.all C.plain=true
 |_=>False
@[simp] theorem yzU{k k' n k0:Nat}{rows rs:List (List C)}:ysw k k' n rows (.row k0 rs)=(k0=k/\k'=k/\rows=rs.take n):=rfl
@[simp] theorem yBN{k k' n k0:Nat}{rows rs:List (List C)}:ypp k k' n rows (.row k0 rs)=(k0=k/\k'=k/\rows=rs.take n):=rfl
@[simp] theorem yCG{k k' n k0 v:Nat}{rows rs:List (List C)}:ypp k k' n rows (.tr k0 v rs)=(k0=k/\k'=k/\rows=rs.take n):=rfl
@[simp] theorem yAp{cs:List C}{l:List AV}:ytP cs (.box l)=(l=cs.map .c/\cs.all C.plain=true):=rfl
section
variable {s:St}
@[simp] theorem own1_c{x c:C}:yab s (.c x) c=(c=x/\x.plain=true):=rfl
@[simp] theorem yAd{k:Nat}{r:List (List C)}{c:C}:yab s (.clip k r) c=(c=.sl k r):=rfl
@[simp] theorem yvx{k k':Nat}{r:List (List C)}:yab s (.nil k) (.ow k' r)=(r=[]):=rfl
@[simp] theorem ywc{k k':Nat}{r:List (List C)}:yab s (.nil k) (.ot k' r)=(r=[]):=rfl
@[simp] theorem yvY{k k':Nat}{r:List (List C)}:yab s (.nil k) (.sl k' r)=(r=[]):=rfl
@[simp] theorem yv1 {id k n k':Nat} {r:List (List C)}:yab s (.own id k n) (.ow k' r)=ysw k k' n r (s.ob id):=by
 cases h:s.ob id<;>simp[yab,ysw,h]
@[simp] theorem yv7 {id k n k':Nat} {r:List (List C)}:yab s (.own id k n) (.ot k' r)=ypp k k' n r (s.ob id):=by
 cases h:s.ob id<;>simp[yab,ypp,h]
@[simp] theorem yvs{id k n k':Nat}{r:List (List C)}:yab s (.own id k n) (.sl k' r)=(n=0/\r=[]):=rfl
@[simp] theorem yCF {id:Nat} {cs:List C}:yab s (.box id 0) (.bx cs)=ytP cs (s.ob id):=by
 cases h:s.ob id<;>simp[yab,ytP,h]
@[simp] theorem own2_c{x:AV}{c:C}:yu s x (.c c)=yab s x c:=rfl
@[simp] theorem yEE{l l':List AV}:yu s (.agg l) (.agg l')=ymq s l l':=rfl
@[simp] theorem yCj:ymq s [] []=True:=rfl
@[simp] theorem yBJ {x:AV} {c:C} {l l':List AV}:ymq s (x::l) (.c c::l')=(yab s x c/\ymq s l l'):=by
 simp[ymq]
@[simp] theorem yBK:ykx s [] []=True:=rfl
@[simp] theorem yxt{x y:AV}{l l':List AV}:ykx s (x::l) (y::l')=(yu s x y/\ykx s l l'):=rfl
@[simp] theorem oid_own{id k n:Nat}:(AV.own id k n).oid=[id]:=rfl
@[simp] theorem oid_box{id n:Nat}:(AV.box id n).oid=[id]:=rfl
@[simp] theorem oid_c{c:C}:(AV.c c).oid=[]:=rfl
@[simp] theorem oid_nil{n:Nat}:(AV.nil n).oid=[]:=rfl
@[simp] theorem yB8{n:Nat}{r:List (List C)}:(AV.clip n r).oid=[]:=rfl
@[simp] theorem yEe{id k n:Nat}:(AV.own id k n).mW=[id]:=rfl
@[simp] theorem yEg{id n:Nat}:(AV.box id n).mW=[id]:=rfl
@[simp] theorem oids_c{c:C}:(AV.c c).mW=[]:=rfl
@[simp] theorem yEM{n:Nat}:(AV.nil n).mW=[]:=rfl
@[simp] theorem yzC{n:Nat}{r:List (List C)}:(AV.clip n r).mW=[]:=rfl
@[simp] theorem yB4{l:List AV}:(AV.agg l).mW=l.flatMap AV.oid:=rfl
def ydm(s:St)(res x:AV):Prop:=yu s x res/\x.mW.Nodup/\(match x with| .tup _=>False|_=>True)
theorem yus{n:Nat}{res:AV}(h:ydm s res (s.env n)):yav s [.t n] res:=by
 obtain⟨h1,h2,h3⟩:=h
 have:kT s [.t n]=some [s.env n]:=by
  simp only[kT,qV];revert h3;generalize s.env n=x;cases x<;>simp
 unfold yav;rw[this];exact⟨h1,h2⟩
theorem ysf{n:Nat}{res:AV}:yav s [.t n] res=ydm s res (s.env n):=by
 refine propext ⟨λh=>?_,yus⟩;unfold yav at h;simp only[kT,qV]at h;unfold ydm;revert h;generalize s.env n=x;cases x<;>simp[ysD]<;>intro h1 h2<;>exact⟨h1,h2⟩
attribute [simp] ysf
@[simp] theorem yDu{res:AV}{id k n:Nat}:ydm s res (.own id k n)=yu s (.own id k n) res:=by simp[ydm]
@[simp] theorem yC7{res:AV}{id n:Nat}:ydm s res (.box id n)=yu s (.box id n) res:=by simp[ydm]
@[simp] theorem ownR_c{res:AV}{c:C}:ydm s res (.c c)=yu s (.c c) res:=by simp[ydm]
@[simp] theorem yET{res:AV}{k:Nat}:ydm s res (.nil k)=yu s (.nil k) res:=by simp[ydm]
@[simp] theorem yBR{res:AV}{k:Nat}{r:List (List C)}:ydm s res (.clip k r)=yu s (.clip k r) res:=by simp[ydm]
@[simp] theorem yDc{res:AV}{l:List AV}:ydm s res (.agg l)=(yu s (.agg l) res/\(l.flatMap AV.oid).Nodup):=by simp[ydm]
def yl0:AV->Prop| .tup _=>False|_=>True
theorem ysK{m n:Nat}{y z:AV}(h1:yu s (s.env m) y)(h2:yu s (s.env n) z)(h3:((s.env m).mW++(s.env n).mW).Nodup):yav s [.t m,.t n] (.tup [y,z]):=by
 have nt:∀{x y:AV},yu s x y->yl0 x:=by
  intro x y h;cases x<;>first|trivial|(cases y<;>exact h.elim)
 have e:∀t,yl0 (s.env t)->qV s (.t t)=some (s.env t):=by
  intro t ht;simp only[qV];revert ht;generalize s.env t=x;cases x<;>simp[yl0]
 have:kT s [.t m,.t n]=some [s.env m,s.env n]:=by
  simp only[kT,e m (nt h1),e n (nt h2)]
 unfold yav;rw[this];exact⟨[y,z],rfl,⟨h1,h2,trivial⟩,by simpa using h3⟩
theorem yq0{m n:Nat}{y z:AV}:yav s [.t m,.t n] (.tup [y,z])=(yu s (s.env m) y/\yu s (s.env n) z/\((s.env m).mW++(s.env n).mW).Nodup):=by
 refine propext ⟨λh=>?_,λh=>ysK h.1 h.2.1 h.2.2⟩;unfold yav at h;simp only[kT,qV]at h;revert h;generalize s.env m=x;generalize s.env n=x';intro h;split at h
 ·rename_i xs hxs
  have:xs=[x,x']:=by
   cases x<;>cases x'<;>simp at hxs<;>exact hxs.symm
  subst this;obtain⟨ys,e,h1,h2⟩:=h;cases e;exact⟨h1.1,h1.2.1,by simpa using h2⟩
 ·exact h.elim
attribute [simp] yq0
def ygQ(s:St)(k:Nat)(res:AV):Obj->Prop
 | .box cells=>cells.length=k/\yu s (.agg cells) res/\(cells.flatMap AV.oid).Nodup
 |_=>False
def ysz(s:St)(k:Nat)(res:AV):AV->Prop
 | .box id 0=>ygQ s k res (s.ob id)
 |_=>False
theorem yyp{n k:Nat}{res:AV}:yav s [.cl n k] res=ysz s k res (s.env n):=by
 unfold yav;simp only[kT,qV];generalize s.env n=x;cases x with
 | box id off=>
  cases off with
  | zero=>
   simp only[ysz];cases s.ob id with
   |box cells=>
    simp only[ygQ]
    by_cases h:cells.length=k
    ·simp[h,ysD]
    ·simp[h]
   |_=>rfl
  |succ o=>rfl
 |_=>rfl
attribute [simp] yyp
@[simp] theorem yzw{k id:Nat}{res:AV}:ysz s k res (.box id 0)=ygQ s k res (s.ob id):=rfl
@[simp] theorem yvG{k:Nat}{res:AV}{cells:List AV}:ygQ s k res (.box cells)=(cells.length=k/\yu s (.agg cells) res/\(cells.flatMap AV.oid).Nodup):=rfl
@[simp] theorem inP_eq{rs:List RS}{x' res:AV}:inP s rs x' res=(yu s (s.env 1000000) x'/\(s.env 1000000).mW.Nodup/\ycM s rs res):=rfl
theorem yvg{id id' k k' n:Nat}{rows rows':List (List C)}{c c':C}(h:s.ob id=.row k rows)(h1:id'=id)(h2:k'=k)(h3:n=rows.length)(h4:rows'.length=rows.length)(h5:c=cw k rows)(h6:c'=cw k rows'):ioC s (.own id k n) c c' (some (id',.row k' rows')):=by
 subst h1 h2 h3 h5 h6;simp[ioC,h,h4]
theorem yvK{c:C}(h:c.plain=true):ioC s (.c c) c c none:=⟨rfl,⟨rfl,h⟩,h,rfl⟩
end
theorem aB{α β:Type}{f:α->β}{l:List α}:(l.map f).take l.length=l.map f:=zaf (by simp)
@[simp] theorem shr_c{c c':C}:(AV.c c).shr (.c c')=(c.shr=some c'):=rfl
@[simp] theorem cshr_ow{k:Nat}{r:List (List C)}:(C.ow k r).shr=some (.sl k r):=rfl
@[simp] theorem cshr_sl{k:Nat}{r:List (List C)}:(C.sl k r).shr=some (.sl k r):=rfl
@[simp] theorem cshr_i{n:Int}:(C.i n).shr=some (.i n):=rfl
@[simp] theorem cshr_b{n:Bool}:(C.b n).shr=some (.b n):=rfl
end Go.Proofs.YtpiplmnecmkafaaGreat
