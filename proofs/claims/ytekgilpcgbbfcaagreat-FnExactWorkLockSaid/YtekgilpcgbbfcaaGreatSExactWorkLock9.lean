/- What the law FnExactWorkLock stands on: contracts of functions, what each answers as plain Lean, in short form (names, layout). -/
import Derived.Test.YtekgilpcgbbfcaaGreatSExactWorkLock8
set_option linter.all false
set_option maxRecDepth 100000
set_option maxHeartbeats 4000000
namespace Go.Proofs.YtekgilpcgbbfcaaGreat
open Go.RowKit
noncomputable section
def yxL(xs:List ySb)(k:Int)(h0:0<=k)(h1:k+5*xs.length<=4611686018427387904):
 InF prg 88 (.c (cw 5 (xs.map ySb.enc))) (.c (cw 5 (marked ylw 5 [] k xs.length))) [.c (.i k)] (.c (.i (k+5*xs.length))):=by
 rcases zas xs.length with hx|hx
 .have:xs=[]:=zai.1 hx;subst this;refine aK ye7 (by simp) (by simp) rfl λhwf=>?_;simp -dsimp -implicitDefEqProofs [yba,marked];refine qA (ι:=Unit) (λ_=>True) (λ_=>xC [(0,.c (.sl 5 [])),(1,.c (.i k)),(5,.c (.i 0)),(1000000,.c (.sl 5 []))] []) (λ_=>0) () trivial (by apply aB<;>simp) ?_
  rintro _ _
  simp -dsimp -implicitDefEqProofs
 .rw[kH (by simpa using hx),kH (by rw[kE];exact hx)];refine aK ye7 (by simp) (by simp) rfl λhwf=>?_;simp -dsimp -implicitDefEqProofs [yba];refine qA (ι:=Nat) (λi=>i<=xs.length) (λi=>xC [(0,.own 0 5 xs.length),(1,.c (.i (k+5*i))),(5,.c (.i i)),(1000000,.own 0 5 xs.length)] [(0,.row 5 (marked ylw 5 (xs.map ySb.enc) k i))]) (λi=>xs.length-i) 0 (by simp) (by apply aB<;>simp[yaS]) ?_
  rintro i hi
  rcases zae i xs.length with hlt|hge
  .obtain⟨e,he⟩:∃e,xs[i]?=some e:=⟨_,zaa hlt⟩;have hg:=yb2 (mk:=ylw) (c:=5) (k:=k) (rows:=xs.map ySb.enc) (i:=i) (r:=e.enc) (by simp[he]);have hl:=ybS (mk:=ylw) (c:=5) (k:=k) (rows:=xs.map ySb.enc) (i:=i) (by simpa using hi);have hs:=ybU (mk:=ylw) (c:=5) (k:=k) (rows:=xs.map ySb.enc) (i:=i) (by simpa using hlt);rw[zaj]at hl;generalize marked ylw 5 (xs.map ySb.enc) k i=M at *;have hlt2:i<M.length:=by omega
   have hself:∀a,(M.set i a)[i]?=some a:=λa=>zaX hlt2;simp only[ylw]at hs;simp only[ySb.enc]at hg;simp -dsimp -implicitDefEqProofs [fC hlt,hg,hl,hlt2,hself];intro hlen;refine⟨hlt,by unfold inI;omega,hlt,by unfold inI;omega,hlt,by unfold inI;omega,hlt,by unfold inI;omega,hlt,by unfold inI;omega,by unfold inI;omega,i+1,hlt,by omega,?_⟩;apply aB<;>simp[hs,hself]<;>omega
  .have:i=xs.length:=by omega
   subst this;simp -dsimp -implicitDefEqProofs;intro _;have e:=ybJ (mk:=ylw) (c:=5) (rows:=xs.map ySb.enc) (k:=k) (i:=xs.length) (by simp);rw[e,zaj,zad (by rw[kE];exact Nat.le_refl _)]
def yxV(n:Nat)(k:Int)(h0:0<=k)(h1:k+5*n<=4611686018427387904):qB prg 97 [.c (.sl 5 (marked ylw 5 [] k n)),.c (.i k)] (.c (.i (k+5*n))):=by
 refine dB yoJ ?_;simp -dsimp -implicitDefEqProofs [ye1];refine qA (ι:=Nat) (λi=>i<=n) (λi=>xC [(0,.c (.sl 5 (marked ylw 5 [] k n))),(1,.c (.i (k+5*i))),(5,.c (.i i))] []) (λi=>n-i) 0 (by simp) (by apply aB<;>simp) ?_
 rintro i hi
 rcases zae i n with hlt|hge
 .have hg:=ydI (mk:=ylw) (c:=5) (k:=k) hlt;simp only[ylw]at hg;simp -dsimp -implicitDefEqProofs [kE,fC hlt,hg];intro hlen;refine⟨by unfold inI;omega,by unfold inI;omega,by unfold inI;omega,by unfold inI;omega,by unfold inI;omega,by unfold inI;omega,i+1,hlt,by omega,?_⟩;apply aB<;>simp<;>omega
 .have:i=n:=by omega
  subst this;simp -dsimp -implicitDefEqProofs [kE]
@[simp] def yRZ.iD(e:yRZ):List C:=[.i e.Base,.i e.ySe,.ow 1 (e.yR5.map qC),.ow 1 (e.yR7.map qC)]
def yCp(e:yRZ)(hl:e.small):nI prg 69 [.agg (e.enc.map .c)] (.agg (e.iD.map .c)):=by
 refine fF yig ?_;simp -dsimp -implicitDefEqProofs [yc4];refine sD (ynU e.yR5 hl.1) (by simp) (by simp[AV.closed,AV.jI,C.closed]) (by simp[fD]) ?_;simp -dsimp -implicitDefEqProofs [jA];refine sD (ynU e.yR7 hl.2) (by simp) (by simp[AV.closed,AV.jI,C.closed]) (by simp[fD]) ?_;simp -dsimp -implicitDefEqProofs [jA]
def nT(e:yRZ):Int:=e.yR5.length+e.yR7.length
def ybq(e:yRZ)(k:Int):List C:=[.i e.Base,.i e.ySe,cw 1 (marked qC 1 [] k e.yR5.length),cw 1 (marked qC 1 [] (k+e.yR5.length) e.yR7.length)]
def yRZ.yv7(e:yRZ):List C:=[.i e.Base,.i e.ySe,cw 1 (e.yR5.map qC),cw 1 (e.yR7.map qC)]
def yxY(e:yRZ)(k:Int)(h0:0<=k)(h1:k+nT e<=8000000000000000000):
 InF prg 87 (.agg (e.yv7.map .c)) (.agg ((ybq e k).map .c)) [.c (.i k)] (.c (.i (k+nT e))):=by
 obtain⟨ba,pa,p,q⟩:=e;simp only[nT]at h1;have hp:p.length=0\/0<p.length:=by omega
 have hq:q.length=0\/0<q.length:=by omega
 rcases hp with hp|hp<;>rcases hq with hq|hq
 .skip
  have:p=[]:=zai.1 hp;subst this;have:q=[]:=zai.1 hq;subst this;have m1:=mV [] k h0 (by first|omega |(simp at h1;omega)|(simp at h1|-;omega));have m2:=mV [] k (by omega) (by first|omega |(simp at h1;omega)|(simp at h1|-;omega));refine aK jZ (by simp) (by simp[yRZ.yv7,marked]) rfl λhwf=>?_;simp -dsimp -implicitDefEqProofs [iV,yRZ.yv7];refine tH (up:=none) m1 (by simp) rfl rfl (sS rfl) ?_;simp -dsimp -implicitDefEqProofs;refine tH (up:=none) m2 (by simp) rfl rfl (sS rfl) ?_;simp -dsimp -implicitDefEqProofs [ybq,nT,kE,yaQ]
  first|rfl|omega
 .skip
  have:p=[]:=zai.1 hp;subst this;have m1:=mV [] k h0 (by first|omega |(simp at h1;omega)|(simp at h1|-;omega));have m2:=mV q k (by omega) (by first|omega |(simp at h1;omega)|(simp at h1|-;omega));have d0:=kH (k:=1) (rows:=q.map qC) (by simpa using hq);have d1:=kH (k:=1) (rows:=marked qC 1 [] k q.length) (by rw[kE];exact hq);refine aK jZ (by simp) (by simp[yRZ.yv7,marked,d0,d1]) rfl λhwf=>?_;simp -dsimp -implicitDefEqProofs [iV,yRZ.yv7,d0,d1];refine tH (up:=none) m1 (by simp) rfl rfl (sS rfl) ?_;simp -dsimp -implicitDefEqProofs;refine tH (up:=some (40000,.row 1 (marked qC 1 [] k q.length))) m2 (by simp) rfl rfl (qH (rows:=q.map qC) (by simp) rfl rfl (by simp) (by simp[kE]) rfl rfl) ?_;simp -dsimp -implicitDefEqProofs [ybq,nT,kE,yaQ,d0,d1]
  first|rfl|omega
 .skip
  have:q=[]:=zai.1 hq;subst this;have m1:=mV p k h0 (by first|omega |(simp at h1;omega)|(simp at h1|-;omega));have m2:=mV [] (k+p.length) (by omega) (by first|omega |(simp at h1;omega)|(simp at h1|-;omega));have c0:=kH (k:=1) (rows:=p.map qC) (by simpa using hp);have c1:=kH (k:=1) (rows:=marked qC 1 [] k p.length) (by rw[kE];exact hp);refine aK jZ (by simp) (by simp[yRZ.yv7,marked,c0,c1]) rfl λhwf=>?_;simp -dsimp -implicitDefEqProofs [iV,yRZ.yv7,c0,c1];refine tH (up:=some (30000,.row 1 (marked qC 1 [] k p.length))) m1 (by simp) rfl rfl (qH (rows:=p.map qC) (by simp) rfl rfl (by simp) (by simp[kE]) rfl rfl) ?_;simp -dsimp -implicitDefEqProofs;refine tH (up:=none) m2 (by simp) rfl rfl (sS rfl) ?_;simp -dsimp -implicitDefEqProofs [ybq,nT,kE,yaQ,c0,c1]
  first|rfl|omega
 .skip
  have m1:=mV p k h0 (by first|omega |(simp at h1;omega)|(simp at h1|-;omega));have m2:=mV q (k+p.length) (by omega) (by first|omega |(simp at h1;omega)|(simp at h1|-;omega));have c0:=kH (k:=1) (rows:=p.map qC) (by simpa using hp);have c1:=kH (k:=1) (rows:=marked qC 1 [] k p.length) (by rw[kE];exact hp);have d0:=kH (k:=1) (rows:=q.map qC) (by simpa using hq);have d1:=kH (k:=1) (rows:=marked qC 1 [] (k+p.length) q.length) (by rw[kE];exact hq);refine aK jZ (by simp) (by simp[yRZ.yv7,marked,c0,c1,d0,d1]) rfl λhwf=>?_;simp -dsimp -implicitDefEqProofs [iV,yRZ.yv7,c0,c1,d0,d1];refine tH (up:=some (30000,.row 1 (marked qC 1 [] k p.length))) m1 (by simp) rfl rfl (qH (rows:=p.map qC) (by simp) rfl rfl (by simp) (by simp[kE]) rfl rfl) ?_;simp -dsimp -implicitDefEqProofs;refine tH (up:=some (40000,.row 1 (marked qC 1 [] (k+p.length) q.length))) m2 (by simp) rfl rfl (qH (rows:=q.map qC) (by simp) rfl rfl (by simp) (by simp[kE]) rfl rfl) ?_;simp -dsimp -implicitDefEqProofs [ybq,nT,kE,yaQ,c0,c1,d0,d1]
  first|rfl|omega
def ye4(r:Reach):Int:=if xE r then sZ r else 0
def ySA(l:List Reach):Int:=(l.map sZ).sum
def jY(l:List Reach):Bool:=decide (1<=l.length)&&decide (l.length<=6)&&l.all xE&&decide (ySA l<=1000000000)
def yav(l:List Reach)(k:Nat):Int:=ySA (l.take k)
def yg2{l:List Reach}:yav l 0=0:=rfl
def yg7{l:List Reach}{k:Nat}{r:Reach}(h:l[k]?=some r):yav l (k+1)=yav l k+sZ r:=by
 unfold yav ySA;rw[zat,h];simp
def ycL{l:List Reach}{k:Nat}(h:l.length<=k):yav l k=ySA l:=by unfold yav;rw[zad h]
structure yST(r:Reach):Prop where
 vol:amount r.ySh=true
 len:r.ySk.length<=12
 amt:∀n∈r.ySk,amount n=true
 rng:0<=sZ r/\sZ r<=1000000000
def yF{r:Reach}(h:xE r=true):yST r:=by
 simp only[xE,zaf,decide_eq_true_eq,zah]at h;obtain⟨⟨⟨⟨h1,h2⟩,h3⟩,h4⟩,h5⟩:=h;refine⟨h2,h3,h4,?_,h5⟩;have a1:=aC.1 (show inRange r.ySh 0 1000000000=true from h2);have a2:=ymV (l:=r.ySk) h4;unfold sZ;omega
def yfj{l:List Reach}:∀{k:Nat},(∀r∈l.take k,xE r=true)->0<=yav l k/\yav l k<=1000000000*k
 |0,_=>by rw[yg2];omega
 | k+1,h=>by
  have ih:=yfj (k:=k) λr hr=>h r (by rw[zat];exact zbi _ hr);have e2:((k+1:Nat):Int)=k+1:=by simp
  cases hk:l[k]? with
  |none=>
   have hl:l.length<=k:=by simpa using hk
   rw[ycL (by omega),<-ycL hl];omega
  |some r=>
   have:=(yF (h r (by rw[zat,hk];exact zaD _ (by simp)))).rng;rw[yg7 hk];omega
def yuO{l:List Reach}{k:Nat}{r:Reach}(h:l[k]?=some r)(hr:xE r=false):jY l=false:=by
 have:=all_false (p:=xE) h hr;simp[jY,this]
def yn0(r:Reach):qB prg 161 [.agg (r.enc.map .c)] (.c (.i (ye4 r))):=by
 refine dB ysw ?_;simp[yjp];refine aA (oL r) ?_;cases h:xE r with
 |false=>simp;simp[ye4,h]
 |true=>
 have f:=yF h;have hl:=f.len;have hv:=aC.1 (show inRange r.ySh 0 1000000000=true from f.vol);have ht:ye4 r=sZ r:=by simp[ye4,h]
 simp[ht];intro hlen;refine qA (ι:=Nat) (λk=>k<=r.ySk.length) (λk=>xC [(3,.c (.i (r.ySh+sumTo r.ySk k))),(12,.c (.sl 1 (r.ySk.map qC))),(13,.c (.i r.ySk.length)),(14,.c (.i k))] []) (λk=>r.ySk.length-k) 0 (by simp) (by apply aB<;>simp[aY]) ?_
 rintro k hk
 rcases zae k r.ySk.length with hlt|hge
 .obtain⟨x,hx⟩:∃x,r.ySk[k]?=some x:=⟨_,zaa hlt⟩;have e1:=nV hx;have b1:=yqW f.amt hl (k+1);rw[e1]at b1;simp[hx,fC hlt];refine⟨by unfold inI;omega,gB hlt hlen,k+1,hlt,by omega,?_⟩;apply aB<;>simp[e1];omega
 .simp[aG hge];rw[yb4 hge,ht];rfl
def yyA(l:List Reach):qB prg 160 [.c (.sl 3 (l.map Reach.enc))] (.c (.b (jY l))):=by
 refine dB ysA ?_;simp[yjL]
 refineλhlen=>⟨λh1=>?_,λh1=>?_⟩
 rotate_left
 .simp[jY];omega
 refineλ_=>⟨λh6=>by simp[jY];omega,λh6=>?_⟩
 refineλ_=>qA (ι:=Nat) (λk=>k<=l.length/\∀r∈l.take k,xE r=true) (λk=>xC [(3,.c (.i (yav l k))),(14,.c (.sl 3 (l.map Reach.enc))),(15,.c (.i l.length)),(16,.c (.i k))] []) (λk=>l.length-k) 0 (by simp) (by apply aB<;>simp[yg2]) ?_
 rintro k ⟨hk,hall⟩
 rcases zae k l.length with hlt|hge
 .obtain⟨r,hr⟩:∃r,l[k]?=some r:=⟨_,zaa hlt⟩;simp[hr,fC hlt];refine aA (oL r) ?_;cases h:xE r with
  |false=>simp;exact yuO hr h
  |true=>
   have ht:ye4 r=sZ r:=by simp[ye4,h]
   have hall':=lD (p:=xE) hr hall h;have hb:=yfj hall';have e1:=yg7 hr;simp;refine aA (yn0 r) ?_;simp[ht];refine⟨by rw[e1]at hb;unfold inI;omega,gB hlt hlen,k+1,⟨hlt,hall'⟩,by omega,?_⟩;apply aB<;>simp[e1]
 .have hall2:=dF (p:=xE) hge hall;simp[aG hge];rw[ycL hge];have a1:1<=l.length:=by omega
  have a2:l.length<=6:=by omega
  simp[jY,a1,a2,hall2]
structure ySL(l:List Reach):Prop where
 len:1<=l.length/\l.length<=6
 ok:∀r∈l,xE r=true
 rng:0<=ySA l/\ySA l<=1000000000
def ynr{l:List Reach}(h:jY l=true):ySL l:=by
 simp only[jY,zaf,decide_eq_true_eq,zah]at h;obtain⟨⟨⟨h1,h2⟩,h3⟩,h4⟩:=h;have:=yfj (l:=l) (k:=l.length) (by rw[List.take_length];exact h3);rw[ycL (Nat.le_refl _)]at this;exact⟨⟨h1,h2⟩,h3,this.1,h4⟩
def yiK(l:List Reach)(k:Nat):Int:=if 1000000001<yav l k then 1000000001 else yav l k
def yCF{l:List Reach}:yiK l 0=0:=by simp[yiK,yg2]
def yBZ{l:List Reach}{k:Nat}{r:Reach}(h:l[k]?=some r)(hr:0<=sZ r):(if 1000000001<yiK l k+sZ r then 1000000001 else yiK l k+sZ r)=yiK l (k+1):=by
 unfold yiK;rw[yg7 h]
 (repeat' split)<;>omega
def yED{l:List Reach}{k:Nat}(h:∀r∈l.take k,xE r=true):0<=yiK l k/\yiK l k<=1000000001:=by
 have:=yfj h;unfold yiK;split<;>omega
def yyq(l:List Reach):qB prg 204 [.c (.sl 3 (l.map Reach.enc))] (.c (.b (jY l))):=by
 refine dB yvl ?_;simp[yjd];refine qA (ι:=Nat) (λk=>k<=l.length/\∀r∈l.take k,xE r=true) (λk=>xC [(0,.c (.sl 3 (l.map Reach.enc))),(3,.c (.i (yiK l k))),(4,.c (.i k))] []) (λk=>l.length-k) 0 (by simp) (by apply aB<;>simp[yCF]) ?_
 rintro k ⟨hk,hall⟩
 rcases zae k l.length with hlt|hge
 .obtain⟨r,hr⟩:∃r,l[k]?=some r:=⟨_,zaa hlt⟩;simp[hr,fC hlt];intro hlen;refine aA (qN r) ?_;cases h:xE r with
  |false=>simp;exact yuO hr h
  |true=>
   have f:=yF h;have hall':=lD (p:=xE) hr hall h;have hb:=yED hall;have hs:=f.rng;have e1:=yBZ hr hs.1;simp[hr,fC hlt];refine aA (yuT r f.vol f.len f.amt) ?_;simp[e1];refine⟨by unfold inI;omega,gB hlt hlen,k+1,⟨hlt,hall'⟩,by omega,?_⟩;apply aB<;>simp[e1]
 .have hall2:=dF (p:=xE) hge hall;simp[aG hge];intro hlen;refine aA (bC l.length 1 6) ?_;have hr:yav l k=ySA l:=ycL hge
  have hc:(yiK l k<=1000000000)=(ySA l<=1000000000):=by
   unfold yiK;rw[hr];apply propext;split<;>omega
  have hrng:inRange (l.length:Int) 1 6=(decide (1<=l.length)&&decide (l.length<=6)):=by
   rw[zcr,aC];simp only[zaf,decide_eq_true_eq];omega
  cases h1:inRange (l.length:Int) 1 6 with
  |false=>simp;rw[jY,<-hrng,h1];simp
  |true=>
   simp;rw[jY,<-hrng,h1];simp[hall2,hc]
def jS(p:Way×List yR6):Bool:=ykM p.1&&decide (p.2.length<=24)&&p.2.all λm=>xN m p.1
def sJ(x:yRW):Bool:=jY x.yRV&&decide (2<=x.yRV.length)&&decide (x.ySl.length=x.yRV.length)&&decide (x.yR3.length=x.yRV.length)&&decide (x.yRX.length+1=x.yRV.length)&&
 (x.ySl.zip x.yR3).all jS&&x.yRX.all fJ
def yJC{w:Way}{ms:List yR6}(h:ykM w=false):jS (w,ms)=false:=by simp[jS,h]
def yJj{w:Way}{ms:List yR6}(h:24<ms.length):jS (w,ms)=false:=by simp[jS];omega
def yHJ{w:Way}{ms:List yR6}{k:Nat}{m:yR6}(h:ms[k]?=some m)(hm:xN m w=false):jS (w,ms)=false:=by
 have:=all_false (p:=λm=>xN m w) h hm;simp[jS,this]
def yay{x:yRW}{k:Nat}{w:Way}{ms:List yR6}(h1:x.ySl[k]?=some w)(h2:x.yR3[k]?=some ms)(h:jS (w,ms)=false):sJ x=false:=by
 have:=all_false (p:=jS) (l:=x.ySl.zip x.yR3) (k:=k) (zbY.2 ⟨h1,h2⟩) h;simp[sJ,this]
def ytm{x:yRW}{k:Nat}{w:yR8}(h1:x.yRX[k]?=some w)(h:fJ w=false):sJ x=false:=by
 have:=all_false (p:=fJ) h1 h;simp[sJ,this]
def pno2{x:yRW}(h:¬2<=x.yRV.length):sJ x=false:=by simp[sJ,h]
def pno3{x:yRW}(h:¬x.ySl.length=x.yRV.length):sJ x=false:=by simp[sJ,h]
def pno4{x:yRW}(h:¬x.yR3.length=x.yRV.length):sJ x=false:=by simp[sJ,h]
def pno5{x:yRW}(h:¬x.yRX.length+1=x.yRV.length):sJ x=false:=by simp[sJ,h]
def yyU(x:yRW)(hs:x.small):qB prg 157 [.agg (x.enc.map .c)] (.c (.b (sJ x))):=by
 have hsM:=hs.2.2.2.1;have hsW:=hs.2.2.1;refine dB yuL ?_;simp[yi7];intro hlen;refine aA (yyA x.yRV) ?_;cases h1:jY x.yRV with
 |false=>simp;simp[sJ,h1]
 |true=>
 simp;refine⟨λh2=>?_,λh2=>(pno2 (by omega))⟩;intro _;refine⟨λh3=>?_,λh3=>(pno3 (by omega))⟩;intro _;refine⟨λh4=>?_,λh4=>(pno4 (by omega))⟩
 refineλ_=>⟨by unfold maxLen at hlen;unfold inI;omega,?_⟩
 refine⟨λh5=>(pno5 (by omega)),λh5=>?_⟩;have h3':x.ySl.length=x.yRV.length:=by omega
 have h4':x.yR3.length=x.yRV.length:=by omega
 have hz:(x.ySl.zip x.yR3).length=x.ySl.length:=by rw[List.length_zip];omega
 refineλhlw=>qA (ι:=Nat) (λk=>k<=x.ySl.length/\∀p∈(x.ySl.zip x.yR3).take k,jS p=true) (λk=>xC [(1,.box 1 0),(44,.c (.sl 2 (x.ySl.map Way.enc))),(45,.c (.i x.ySl.length)),(46,.c (.i k))] [(1,.box (x.enc.map .c))]) (λk=>x.ySl.length-k) 0 (by simp) (by apply aB<;>simp) ?_
 rintro k ⟨hk,hall⟩
 rcases zae k x.ySl.length with hlt|hge
 .obtain⟨w,hw⟩:∃w,x.ySl[k]?=some w:=⟨_,zaa hlt⟩;obtain⟨ms,hm⟩:∃w,x.yR3[k]?=some w:=⟨_,zaa (by omega)⟩;have hkm:k<x.yR3.length:=by omega
  have gm:=(zab.1 hm).2;have gw:=(zab.1 hw).2;have hp:(x.ySl.zip x.yR3)[k]?=some (w,ms):=zbY.2 ⟨hw,hm⟩;have hsm:=hsM.2 ms (zac hm);simp[hw,gw,fC hlt,hlt];refine aA (ysY w) ?_;cases h6:ykM w with
  |false=>simp;exact yay hw hm (yJC h6)
  |true=>
  simp[hm,gm,hkm,fC hkm];intro hlm;refine⟨λh7=>(yay hw hm (yJj (by omega))),λh7=>?_⟩
  refineλ_=>qA (ι:=Nat) (λi=>i<=ms.length/\∀m∈ms.take i,xN m w=true) (λi=>xC [(1,.box 1 0),(5,.box 5 0),(44,.c (.sl 2 (x.ySl.map Way.enc))),(45,.c (.i x.ySl.length)),(46,.c (.i k)),(67,.c (.sl 3 (ms.map yR6.enc))),(68,.c (.i ms.length)),(69,.c (.i i))] [(1,.box (x.enc.map .c)),(5,.box (w.enc.map .c))]) (λi=>ms.length-i) 0 (by simp) (by apply aB<;>simp) ?_
  rintro i ⟨hi,hall2⟩
  rcases zae i ms.length with hlt2|hge2
  .obtain⟨m,hmm⟩:∃w,ms[i]?=some w:=⟨_,zaa hlt2⟩;have g2:=(zab.1 hmm).2;simp[hmm,g2,fC hlt2,hlt2];refine aA (yym m w (hsm.2 m (zac hmm))) ?_;cases h8:xN m w with
   |false=>simp;exact yay hw hm (yHJ hmm h8)
   |true=>
    simp;refine⟨gB hlt2 hlm,i+1,⟨hlt2,lD (p:=λm=>xN m w) hmm hall2 h8⟩,by omega,?_⟩;apply aB<;>simp
  .have h9:=dF (p:=λm=>xN m w) hge2 hall2
   have hlane:jS (w,ms)=true:=by
    have:ms.length<=24:=by omega
    simp[jS,h6,this,h9]
   simp[aG hge2];refine⟨gB hlt hlw,k+1,⟨hlt,λa b hab=>lD (p:=jS) hp hall hlane (a,b) hab⟩,by omega,?_⟩;apply aB<;>simp
 .have hl:=dF (p:=jS) (by rw[hz];exact hge) hall;simp[aG hge]
  refineλhlk=>qA (ι:=Nat) (λi=>i<=x.yRX.length/\∀w∈x.yRX.take i,fJ w=true) (λi=>xC [(1,.box 1 0),(80,.c (.sl 22 (x.yRX.map yR8.enc))),(81,.c (.i x.yRX.length)),(82,.c (.i i))] [(1,.box (x.enc.map .c))]) (λi=>x.yRX.length-i) 0 (by simp) (by apply aB<;>simp) ?_
  rintro i ⟨hi,hall2⟩
  rcases zae i x.yRX.length with hlt2|hge2
  .obtain⟨w,hw⟩:∃w,x.yRX[i]?=some w:=⟨_,zaa hlt2⟩;have g2:=(zab.1 hw).2;simp[hw,g2,fC hlt2,hlt2];refine aA (yAQ w (hsW.2 w (zac hw))) ?_;cases h8:fJ w with
   |false=>simp;exact ytm hw h8
   |true=>
    simp;refine⟨gB hlt2 hlk,i+1,⟨hlt2,lD (p:=fJ) hw hall2 h8⟩,by omega,?_⟩;apply aB<;>simp
  .have h9:=dF (p:=fJ) hge2 hall2;simp[aG hge2];have h2':2<=x.yRV.length:=by omega
   have h5':x.yRX.length+1=x.yRV.length:=by omega
   simp[sJ,h1,h2',h3',h4',h5',hl,h9]
def yt(n:Nat)(p:yR2):Bool:=inRange p.Time 0 1000000&&inRange p.yR8 0 (n-1)&&oC p.yRT
def pO(x:yRW):Bool:=decide (x.yR9.length<=500)&&decide (x.ySd.length<=2000)&&decide (x.yR1.length<=500)&&x.yR9.all oC&&x.ySd.all (λn=>inRange n 1 9999)&&x.yR1.all (yt x.yRX.length)
def rC(x:yRW):Bool:=inRange x.Time 0 1000000&&sJ x&&pO x&&nH x.yRZ&&kU x.Book&&inRange x.Start 0 1000000000&&inRange x.In 0 1000000000&&inRange x.Out 0 1000000000
def lno1{x:yRW}(h:¬x.yR9.length<=500):pO x=false:=by simp[pO,h]
def lno2{x:yRW}(h:¬x.ySd.length<=2000):pO x=false:=by simp[pO,h]
def lno3{x:yRW}(h:¬x.yR1.length<=500):pO x=false:=by simp[pO,h]
def lno4{x:yRW}{k:Nat}{t:yRT}(h1:x.yR9[k]?=some t)(h:oC t=false):pO x=false:=by
 have:=all_false (p:=oC) h1 h;simp[pO,this]
def lno5{x:yRW}{k:Nat}{t:Int}(h1:x.ySd[k]?=some t)(h:inRange t 1 9999=false):pO x=false:=by
 have:=all_false (p:=λn=>inRange n 1 9999) h1 h;simp[pO,this]
def yEq{x:yRW}{k:Nat}{t:yR2}(h1:x.yR1[k]?=some t)(h:yt x.yRX.length t=false):pO x=false:=by
 have:=all_false (p:=yt x.yRX.length) h1 h;simp[pO,this]
def wno{x:yRW}(h:pO x=false):rC x=false:=by simp[rC,h]
def yis(x:yRW)(hs:x.small):qB prg 50 [.agg (x.enc.map .c)] (.c (.b (rC x))):=by
 have hsA:=hs.2.2.2.2.1;have hsP:=hs.2.2.2.2.2.2.2.2;refine dB ynT ?_;simp[yfh];refine aA (iC x.Time 0 1000000) ?_;cases h1:inRange x.Time 0 1000000 with
 |false=>simp;simp[rC,h1]
 |true=>
 simp;refine aA (yyU x hs) ?_;cases h2:sJ x with
 |false=>simp;simp[rC,h2]
 |true=>
 simp;intro hlA;refine⟨λh3=>?_,λh3=>(wno (lno1 (by omega)))⟩;intro hlE;refine⟨λh4=>?_,λh4=>(wno (lno2 (by omega)))⟩;intro hlP;refine⟨λh5=>(wno (lno3 (by omega))),λh5=>?_⟩
 refineλ_=>qA (ι:=Nat) (λk=>k<=x.yR9.length/\∀t∈x.yR9.take k,oC t=true) (λk=>xC [(1,.box 1 0),(37,.c (.sl 2 (x.yR9.map yRT.enc))),(38,.c (.i x.yR9.length)),(39,.c (.i k))] [(1,.box (x.enc.map .c))]) (λk=>x.yR9.length-k) 0 (by simp) (by apply aB<;>simp) ?_
 rintro k ⟨hk,hall⟩
 rcases zae k x.yR9.length with hlt|hge
 .obtain⟨t,ht⟩:∃w,x.yR9[k]?=some w:=⟨_,zaa hlt⟩;simp[ht,fC hlt];refine aA (gK t (hsA.2 t (zac ht))) ?_;cases h6:oC t with
  |false=>simp;exact wno (lno4 ht h6)
  |true=>
   simp;refine⟨gB hlt hlA,k+1,⟨hlt,lD (p:=oC) ht hall h6⟩,by omega,?_⟩;apply aB<;>simp
 have hA:=dF (p:=oC) hge hall;simp[aG hge]
 refineλ_=>qA (ι:=Nat) (λk=>k<=x.ySd.length/\∀t∈x.ySd.take k,inRange t 1 9999=true) (λk=>xC [(1,.box 1 0),(48,.c (.sl 1 (x.ySd.map qC))),(49,.c (.i x.ySd.length)),(50,.c (.i k))] [(1,.box (x.enc.map .c))]) (λk=>x.ySd.length-k) 0 (by simp) (by apply aB<;>simp) ?_
 clear hall hk hge k
 rintro k ⟨hk,hall⟩
 rcases zae k x.ySd.length with hlt|hge
 .obtain⟨t,ht⟩:∃w,x.ySd[k]?=some w:=⟨_,zaa hlt⟩;simp[ht,fC hlt];refine aA (iC t 1 9999) ?_;cases h6:inRange t 1 9999 with
  |false=>simp;exact wno (lno5 ht h6)
  |true=>
   simp;refine⟨gB hlt hlE,k+1,⟨hlt,lD (p:=λn=>inRange n 1 9999) ht hall h6⟩,by omega,?_⟩;apply aB<;>simp
 have hE:=dF (p:=λn=>inRange n 1 9999) hge hall;simp[aG hge]
 refineλ_=>qA (ι:=Nat) (λk=>k<=x.yR1.length/\∀t∈x.yR1.take k,yt x.yRX.length t=true) (λk=>xC [(1,.box 1 0),(59,.c (.sl 4 (x.yR1.map yR2.enc))),(60,.c (.i x.yR1.length)),(61,.c (.i k))] [(1,.box (x.enc.map .c))]) (λk=>x.yR1.length-k) 0 (by simp) (by apply aB<;>simp) ?_
 clear hall hk hge k
 rintro k ⟨hk,hall⟩
 rcases zae k x.yR1.length with hlt|hge
 .obtain⟨t,ht⟩:∃w,x.yR1[k]?=some w:=⟨_,zaa hlt⟩;simp[ht,fC hlt];refine aA (iC t.Time 0 1000000) ?_;cases h6:inRange t.Time 0 1000000 with
  |false=>simp;exact wno (yEq ht (by simp[yt,h6]))
  |true=>
  simp
  refineλhlW=>⟨by unfold maxLen at hlW;unfold inI;omega,?_⟩
  refine aA (iC t.yR8 0 (x.yRX.length-1)) ?_;cases h7:inRange t.yR8 0 (x.yRX.length-1)with
  |false=>simp;exact wno (yEq ht (by simp[yt,h7]))
  |true=>
  simp;refine aA (gK t.yRT (hsP.2 t (zac ht))) ?_;cases h8:oC t.yRT with
  |false=>simp;exact wno (yEq ht (by simp[yt,h8]))
  |true=>
  simp;refine⟨gB hlt hlP,k+1,⟨hlt,lD (p:=yt x.yRX.length) ht hall (by simp[yt,h6,h7,h8])⟩,by omega,?_⟩;apply aB<;>simp
 have hP:=dF (p:=yt x.yRX.length) hge hall;simp[aG hge];refine aA (yfw x.yRZ) ?_;cases h7:nH x.yRZ with
 |false=>simp;simp[rC,h7]
 |true=>
 simp;refine aA (ykw x.Book) ?_;cases h8:kU x.Book with
 |false=>simp;simp[rC,h8]
 |true=>
 simp;refine aA (iC x.Start 0 1000000000) ?_;cases h9:inRange x.Start 0 1000000000 with
 |false=>simp;simp[rC,h9]
 |true=>
 simp;refine aA (iC x.In 0 1000000000) ?_;cases h10:inRange x.In 0 1000000000 with
 |false=>simp;simp[rC,h10]
 |true=>
 simp;refine aA (iC x.Out 0 1000000000) ?_;simp;have a3:x.yR9.length<=500:=by omega
 have a4:x.ySd.length<=2000:=by omega
 have a5:x.yR1.length<=500:=by omega
 have hl:pO x=true:=by simp only[pO,a3,a4,a5,hA,hE,hP];simp
 simp[rC,h1,h2,h7,h8,h9,h10,hl]
def yBx(x:yRW)(hs:x.small):qB prg 111 [.agg (x.enc.map .c)] (.c (.b (sJ x))):=by
 have hsM:=hs.2.2.2.1;have hsW:=hs.2.2.1;refine dB yry ?_;simp[yib];intro hlen;refine aA (yyq x.yRV) ?_;cases h1:jY x.yRV with
 |false=>simp;simp[sJ,h1]
 |true=>
 simp;refine⟨λh2=>?_,λh2=>(pno2 (by omega))⟩;intro _;refine⟨λh3=>?_,λh3=>(pno3 (by omega))⟩;intro _;refine⟨λh4=>?_,λh4=>(pno4 (by omega))⟩
 refineλ_=>⟨by unfold maxLen at hlen;unfold inI;omega,?_⟩
 refine⟨λh5=>(pno5 (by omega)),λh5=>?_⟩;have h3':x.ySl.length=x.yRV.length:=by omega
 have h4':x.yR3.length=x.yRV.length:=by omega
 have h5':x.yRX.length+1=x.yRV.length:=by omega
 have hz:(x.ySl.zip x.yR3).length=x.ySl.length:=by rw[List.length_zip];omega
 refine qA (ι:=Nat) (λk=>k<=x.ySl.length/\(∀p∈(x.ySl.zip x.yR3).take k,jS p=true)/\∀w∈x.yRX.take k,fJ w=true) (λk=>xC [(1,.box 1 0),(3,.c (.i x.yRV.length)),(4,.c (.i k))] [(1,.box (x.enc.map .c))]) (λk=>x.ySl.length-k) 0 (by simp) (by apply aB<;>simp) ?_
 rintro k ⟨hk,hall,hallw⟩
 rcases zae k x.ySl.length with hlt|hge
 .obtain⟨w,hw⟩:∃w,x.ySl[k]?=some w:=⟨_,zaa hlt⟩;obtain⟨ms,hm⟩:∃w,x.yR3[k]?=some w:=⟨_,zaa (by omega)⟩;have hkm:k<x.yR3.length:=by omega
  have hkr:k<x.yRV.length:=by omega
  have gm:=(zab.1 hm).2;have gw:=(zab.1 hw).2;have hp:(x.ySl.zip x.yR3)[k]?=some (w,ms):=zbY.2 ⟨hw,hm⟩;have hsm:=hsM.2 ms (zac hm);simp[hw,gw,fC hlt,hlt,hkr,fC hkr];refine aA (ysH w) ?_;cases h6:ykM w with
  |false=>simp;exact yay hw hm (yJC h6)
  |true=>
  simp[hm,gm,hkm,fC hkm];intro hlm;refine⟨λh7=>?_,λh7=>(yay hw hm (yJj (by omega)))⟩;refine⟨by unfold maxLen at hlen;unfold inI;omega,λhc=>?_,λhc=>?_⟩
  .obtain⟨wk,hwk⟩:∃w,x.yRX[k]?=some w:=⟨_,zaa (by omega)⟩;have gk:=(zab.1 hwk).2;have hkw:k<x.yRX.length:=by omega
   refine⟨hkw,?_⟩;simp[hwk];refine aA (yA1 wk (hsW.2 wk (zac hwk))) ?_;cases h10:fJ wk with
   |false=>simp;exact ytm hwk h10
   |true=>
   simp;refine qA (ι:=Nat) (λi=>i<=ms.length/\∀m∈ms.take i,xN m w=true) (λi=>xC [(1,.box 1 0),(3,.c (.i x.yRV.length)),(4,.c (.i k)),(5,.c (.i i))] [(1,.box (x.enc.map .c))]) (λi=>ms.length-i) 0 (by simp) (by apply aB<;>simp) ?_
   rintro i ⟨hi,hall2⟩
   rcases zae i ms.length with hlt2|hge2
   .obtain⟨m,hmm⟩:∃w,ms[i]?=some w:=⟨_,zaa hlt2⟩;have g2:=(zab.1 hmm).2;simp[hw,gw,hlt,fC hlt,hm,gm,hkm,fC hkm,hmm,g2,fC hlt2,hlt2];intro _;refine lC (yof m w (hsm.2 m (zac hmm))) ?_;cases h8:xN m w with
    |false=>simp;exact yay hw hm (yHJ hmm h8)
    |true=>
     simp;refine⟨gB hlt2 hlm,i+1,⟨hlt2,lD (p:=λm=>xN m w) hmm hall2 h8⟩,by omega,?_⟩;apply aB<;>simp
   .have h9:=dF (p:=λm=>xN m w) hge2 hall2
    have hlane:jS (w,ms)=true:=by
     have:ms.length<=24:=by omega
     simp[jS,h6,this,h9]
    simp[hm,gm,hkm,fC hkm,aG hge2]
    refineλ_=>⟨by unfold maxLen at hlen;unfold inI;omega,k+1,⟨hlt,λa b hab=>lD (p:=jS) hp hall hlane (a,b) hab,lD (p:=fJ) hwk hallw h10⟩,by omega,?_⟩
    apply aB<;>simp
  .have hwa:x.yRX.take (k+1)=x.yRX.take k:=by rw[zad (by omega),zad (by omega)]
   refine qA (ι:=Nat) (λi=>i<=ms.length/\∀m∈ms.take i,xN m w=true) (λi=>xC [(1,.box 1 0),(3,.c (.i x.yRV.length)),(4,.c (.i k)),(5,.c (.i i))] [(1,.box (x.enc.map .c))]) (λi=>ms.length-i) 0 (by simp) (by apply aB<;>simp) ?_
   rintro i ⟨hi,hall2⟩
   rcases zae i ms.length with hlt2|hge2
   .obtain⟨m,hmm⟩:∃w,ms[i]?=some w:=⟨_,zaa hlt2⟩;have g2:=(zab.1 hmm).2;simp[hw,gw,hlt,fC hlt,hm,gm,hkm,fC hkm,hmm,g2,fC hlt2,hlt2];intro _;refine lC (yof m w (hsm.2 m (zac hmm))) ?_;cases h8:xN m w with
    |false=>simp;exact yay hw hm (yHJ hmm h8)
    |true=>
     simp;refine⟨gB hlt2 hlm,i+1,⟨hlt2,lD (p:=λm=>xN m w) hmm hall2 h8⟩,by omega,?_⟩;apply aB<;>simp
   .have h9:=dF (p:=λm=>xN m w) hge2 hall2
    have hlane:jS (w,ms)=true:=by
     have:ms.length<=24:=by omega
     simp[jS,h6,this,h9]
    simp[hm,gm,hkm,fC hkm,aG hge2]
    refineλ_=>⟨by unfold maxLen at hlen;unfold inI;omega,k+1,⟨hlt,λa b hab=>lD (p:=jS) hp hall hlane (a,b) hab,by rw[hwa];exact hallw⟩,by omega,?_⟩
    apply aB<;>simp
 .simp[aG hge];refine⟨by omega,λ_=>?_⟩;have hl:=dF (p:=jS) (by rw[hz];exact hge) hall;have h9:=dF (p:=fJ) (l:=x.yRX) (k:=k) (by omega) hallw;have h2':2<=x.yRV.length:=by omega
  simp[sJ,h1,h2',h3',h4',h5',hl,h9]
def yCm(x:yRW)(hs:x.small):qB prg 112 [.agg (x.enc.map .c)] (.c (.b (pO x))):=by
 have hsA:=hs.2.2.2.2.1;have hsP:=hs.2.2.2.2.2.2.2.2;refine dB yrm ?_;simp[yik];intro hlA;refine⟨λh3=>?_,λh3=>(lno1 (by omega))⟩;intro hlE;refine⟨λh4=>?_,λh4=>(lno2 (by omega))⟩;intro hlP;refine⟨λh5=>(lno3 (by omega)),λh5=>?_⟩;refine qA (ι:=Nat) (λk=>k<=x.yR9.length/\∀t∈x.yR9.take k,oC t=true) (λk=>xC [(1,.box 1 0),(3,.c (.i k))] [(1,.box (x.enc.map .c))]) (λk=>x.yR9.length-k) 0 (by simp) (by apply aB<;>simp) ?_
 rintro k ⟨hk,hall⟩
 rcases zae k x.yR9.length with hlt|hge
 .obtain⟨t,ht⟩:∃w,x.yR9[k]?=some w:=⟨_,zaa hlt⟩;have g1:=(zab.1 ht).2;simp[ht,g1,hlt,fC hlt];intro _;refine aA (jJ t (hsA.2 t (zac ht))) ?_;cases h6:oC t with
  |false=>simp;exact lno4 ht h6
  |true=>
   simp;refine⟨gB hlt hlA,k+1,⟨hlt,lD (p:=oC) ht hall h6⟩,by omega,?_⟩;apply aB<;>simp
 have hA:=dF (p:=oC) hge hall;simp[aG hge]
 refineλ_=>qA (ι:=Nat) (λk=>k<=x.ySd.length/\∀t∈x.ySd.take k,inRange t 1 9999=true) (λk=>xC [(1,.box 1 0),(4,.c (.i k))] [(1,.box (x.enc.map .c))]) (λk=>x.ySd.length-k) 0 (by simp) (by apply aB<;>simp) ?_
 clear hall hk hge k
 rintro k ⟨hk,hall⟩
 rcases zae k x.ySd.length with hlt|hge
 .obtain⟨t,ht⟩:∃w,x.ySd[k]?=some w:=⟨_,zaa hlt⟩;have g1:=(zab.1 ht).2;simp[ht,g1,hlt,fC hlt];intro _;refine aA (bC t 1 9999) ?_;cases h6:inRange t 1 9999 with
  |false=>simp;exact lno5 ht h6
  |true=>
   simp;refine⟨gB hlt hlE,k+1,⟨hlt,lD (p:=λn=>inRange n 1 9999) ht hall h6⟩,by omega,?_⟩;apply aB<;>simp
 have hE:=dF (p:=λn=>inRange n 1 9999) hge hall;simp[aG hge]
 refineλ_=>qA (ι:=Nat) (λk=>k<=x.yR1.length/\∀t∈x.yR1.take k,yt x.yRX.length t=true) (λk=>xC [(1,.box 1 0),(5,.c (.i k))] [(1,.box (x.enc.map .c))]) (λk=>x.yR1.length-k) 0 (by simp) (by apply aB<;>simp) ?_
 clear hall hk hge k
 rintro k ⟨hk,hall⟩
 rcases zae k x.yR1.length with hlt|hge
 .obtain⟨t,ht⟩:∃w,x.yR1[k]?=some w:=⟨_,zaa hlt⟩;have g1:=(zab.1 ht).2;simp[ht,g1,hlt,fC hlt];intro _;refine aA (bC t.Time 0 1000000) ?_;cases h6:inRange t.Time 0 1000000 with
  |false=>simp;exact yEq ht (by simp[yt,h6])
  |true=>
  simp
  refineλhlW=>⟨by unfold maxLen at hlW;unfold inI;omega,?_⟩
  refine aA (bC t.yR8 0 (x.yRX.length-1)) ?_;cases h7:inRange t.yR8 0 (x.yRX.length-1)with
  |false=>simp;exact yEq ht (by simp[yt,h7])
  |true=>
  simp;refine aA (jJ t.yRT (hsP.2 t (zac ht))) ?_;cases h8:oC t.yRT with
  |false=>simp;exact yEq ht (by simp[yt,h8])
  |true=>
  simp;refine⟨gB hlt hlP,k+1,⟨hlt,lD (p:=yt x.yRX.length) ht hall (by simp[yt,h6,h7,h8])⟩,by omega,?_⟩;apply aB<;>simp
 have hP:=dF (p:=yt x.yRX.length) hge hall;simp[aG hge];intro _;have a3:x.yR9.length<=500:=by omega
 have a4:x.ySd.length<=2000:=by omega
 have a5:x.yR1.length<=500:=by omega
 simp only[pO,a3,a4,a5,hA,hE,hP];simp
def yc1(x:yRW)(hs:x.small):qB prg 34 [.agg (x.enc.map .c)] (.c (.b (rC x))):=by
 refine dB ynS ?_;simp[yeV];refine aA (bC x.Time 0 1000000) ?_;cases h1:inRange x.Time 0 1000000 with
 |false=>simp;simp[rC,h1]
 |true=>
 simp;refine aA (bC x.Start 0 1000000000) ?_;cases h2:inRange x.Start 0 1000000000 with
 |false=>simp;simp[rC,h2]
 |true=>
 simp;refine aA (bC x.In 0 1000000000) ?_;cases h3:inRange x.In 0 1000000000 with
 |false=>simp;simp[rC,h3]
 |true=>
 simp;refine aA (bC x.Out 0 1000000000) ?_;cases h4:inRange x.Out 0 1000000000 with
 |false=>simp;simp[rC,h4]
 |true=>
 simp;refine aA (yBx x hs) ?_;cases h5:sJ x with
 |false=>simp;simp[rC,h5]
 |true=>
 simp;refine aA (yCm x hs) ?_;cases h6:pO x with
 |false=>simp;simp[rC,h6]
 |true=>
 simp;refine aA (yfH x.yRZ) ?_;cases h7:nH x.yRZ with
 |false=>simp;simp[rC,h7]
 |true=>
 simp;refine aA (yjB x.Book) ?_;simp;simp[rC,h1,h2,h3,h4,h5,h6,h7]
structure ySK(x:yRW):Prop where
 ySA:jY x.yRV=true
 few:x.yRX.length<=5
 rng:∀w∈x.yRX,0<=w.yR0.ySn/\w.yR0.ySn<=1000000000
 start:0<=x.Start/\x.Start<=1000000000
 inn:0<=x.In/\x.In<=1000000000
 out:0<=x.Out/\x.Out<=1000000000
def yCL{x:yRW}(h:rC x=true):ySK x:=by
 simp only[rC,zaf]at h;obtain⟨⟨⟨⟨⟨⟨⟨h1,h2⟩,h3⟩,h4⟩,h5⟩,h6⟩,h7⟩,h8⟩:=h;simp only[sJ,zaf,decide_eq_true_eq,zah]at h2;obtain⟨⟨⟨⟨⟨⟨p1,p2⟩,p3⟩,p4⟩,p5⟩,p6⟩,p7⟩:=h2;have rf:=(ynr p1).len;refine⟨p1,by omega,λw hw=>?_,aC.1 h6,aC.1 h7,aC.1 h8⟩;have:=p7 w hw;simp only[fJ,lF,zaf]at this;exact aC.1 this.1.1.1.1.1.1.1.1.2
def iJ{α:Type}{f:α->List C}(h:∀x,∀c∈f x,c.closed)(k:Nat)(l:List α):(C.ot k (l.map f)).closed:=by
 simp only[C.closed,zaL]
 rintro r ⟨x,_,rfl⟩ c hc
 exact h x c hc
def dP{l:List C}(h:∀c∈l,c.closed):(AV.agg (l.map .c)).closed:=by
 show∀c,c∈AV.cs (l.map AV.c)->c.closed
 rw[ypQ];exact h
def dQ{k:Int}(h:0<=k):inI (k.tmod 3):=by
 have:=zdf 3 h;have:=zcJ k (b:=3) (by omega);unfold inI;omega
def yeK(xs:List ySa):∀c∈jF xs,c.closed:=by simp[jF,C.closed]
def yRT.aF(e:yRT):∀c∈e.iD,c.closed:=by
 simp only[yRT.iD,zaH,zba,or_false,forall_eq_or_imp,forall_eq];exact⟨by simp[C.closed],iJ yeK _ _⟩
def yR6.aF(e:yR6):∀c∈e.iD,c.closed:=by
 simp only[yR6.iD,zaH,zba,or_false,forall_eq_or_imp,forall_eq];exact⟨by simp[C.closed],iJ yeK _ _,by simp[C.closed]⟩
def Reach.aF(e:Reach):∀c∈e.iD,c.closed:=by
 simp only[Reach.iD,zaH,zba,or_false,forall_eq_or_imp,forall_eq];exact⟨by simp[C.closed],by simp[C.closed],by simp[C.closed]⟩
def yRZ.aF(e:yRZ):∀c∈e.iD,c.closed:=by
 simp only[yRZ.iD,zaH,zba,or_false,forall_eq_or_imp,forall_eq];exact⟨by simp[C.closed],by simp[C.closed],by simp[C.closed],by simp[C.closed]⟩
def yyx(n:Nat)(k:Int)(h0:0<=k)(h1:k+2*n<=8000000000000000000):qB prg 196 [.c (.sl 2 (marked ylF 2 [] k n)),.c (.i k)] (.c (.i (k+2*n))):=by
 refine dB yoF ?_;simp -dsimp -implicitDefEqProofs [yeN];refine qA (ι:=Nat) (λi=>i<=n) (λi=>xC [(0,.c (.sl 2 (marked ylF 2 [] k n))),(1,.c (.i (k+2*i))),(5,.c (.i i))] []) (λi=>n-i) 0 (by simp) (by apply aB<;>simp) ?_
 rintro i hi
 rcases zae i n with hlt|hge
 .have hg:=ydI (mk:=ylF) (c:=2) (k:=k) hlt;simp only[ylF]at hg;simp -dsimp -implicitDefEqProofs [kE,fC hlt,hg];intro hlen
  repeat(refine⟨by first|exact hlt|(unfold inI;omega)|exact dQ (by omega),?_⟩)
  refine⟨i+1,hlt,by omega,?_⟩;apply aB<;>simp<;>omega
 .have:i=n:=by omega
  subst this;simp -dsimp -implicitDefEqProofs [kE]
def yCC(xs:List Reach)(hl:ybv xs):nI prg 63 [.c (.sl 3 (xs.map Reach.enc))] (.c (.ot 3 (xs.map Reach.iD))):=by
 refine fF yit ?_;simp -dsimp -implicitDefEqProofs [ycY];intro hlen;have hl1:=hl.1;refine⟨by omega,?_⟩;refine qA (ι:=Nat) (λk=>k<=xs.length) (λk=>xC [(0,.c (.sl 3 (xs.map Reach.enc))),(3,.own 7 3 xs.length),(4,.c (.i k))] [(7,.tr 3 0 (partly Reach.iD [.sl 2 [],.i 0,.sl 1 []] xs k))]) (λk=>xs.length-k) 0 (by simp) (by apply aB<;>simp[mF,Obj.leO]) ?_
 rintro k hk
 rcases zae k xs.length with hlt|hge
 .obtain⟨e,he⟩:∃e,xs[k]?=some e:=⟨_,zaa hlt⟩;have hs:=fG (f:=Reach.iD) (z:=[.sl 2 [],.i 0,.sl 1 []]) he;have hd:=qG (f:=Reach.iD) (z:=[.sl 2 [],.i 0,.sl 1 []]) (n:=3) rfl hlt;simp only[Reach.iD]at hs;simp -dsimp -implicitDefEqProofs [he,fC hlt];intro _;refine sD (yFd e (hl.2 e (zac he))) (by simp) (dP (Reach.aF _)) (by simp[fD]) ?_;simp -dsimp -implicitDefEqProofs [fC hlt,dG hk,jA,hd,hs];exact⟨hlt,gB hlt hlen,k+1,hlt,by omega,by apply aB<;>simp[Obj.leO]⟩
 .simp -dsimp -implicitDefEqProofs [aG hge];intro _;rw[eG hge,jA]
def aH(e:Reach):Nat:=2*e.ySg.length+1+e.ySk.length
def rY(k:Int)(e:Reach):List C:=[.ow 2 (marked ylF 2 [] k e.ySg.length),.i (k+2*(e.ySg.length:Int)),.ow 1 (marked qC 1 [] (k+2*(e.ySg.length:Int)+1) e.ySk.length)]
def yea(k:Int)(e:Reach):List C:=[.sl 2 (marked ylF 2 [] k e.ySg.length),.i (k+2*(e.ySg.length:Int)),.sl 1 (marked qC 1 [] (k+2*(e.ySg.length:Int)+1) e.ySk.length)]
def ynZ(k:Int)(e:Reach):dO (rY k e)=some (yea k e):=by simp[rY,yea,dO,C.shr]
def yyO(xs:List Reach)(k:Int)(h0:0<=k)(h1:k+cnt aH xs<=8000000000000000000):
 InF prg 81 (.c (ct 3 (xs.map Reach.iD))) (.c (ct 3 (dH rY aH k xs))) [.c (.i k)] (.c (.i (k+cnt aH xs))):=by
 rcases zas xs.length with hx|hx
 .have:xs=[]:=zai.1 hx;subst this;refine aK yeI (by simp) (by simp) rfl λhwf=>?_;simp -dsimp -implicitDefEqProofs [ya5,dH,cnt];refine qA (ι:=Unit) (λ_=>True) (λ_=>xC [(0,.c (.sl 3 [])),(1,.c (.i k)),(5,.c (.i 0)),(1000000,.c (.sl 3 []))] []) (λ_=>0) () trivial (by apply aB<;>simp) ?_
  rintro _ _
  simp -dsimp -implicitDefEqProofs
 .rw[iY (by simpa using hx),iY (by rw[jD];exact hx)];refine aK yeI (by simp) (by simp) rfl λhwf=>?_;simp -dsimp -implicitDefEqProofs [ya5];refine qA (ι:=Nat) (λi=>i<=xs.length) (λi=>xC [(0,.own 0 3 xs.length),(1,.c (.i (k+pI aH xs i))),(5,.c (.i i)),(1000000,.own 0 3 xs.length)] [(0,.tr 3 0 (dX rY Reach.iD aH k xs i))]) (λi=>xs.length-i) 0 (by simp) (by apply aB<;>simp[yD,jK,Obj.leO]) ?_
  rintro i hi
  rcases zae i xs.length with hlt|hge
  .obtain⟨e,he⟩:∃e,xs[i]?=some e:=⟨_,zaa hlt⟩;have hg:=yaO (f:=rY) (g:=Reach.iD) (n:=aH) (k:=k) he;have hl:=yaK (f:=rY) (g:=Reach.iD) (n:=aH) (k:=k) (xs:=xs) (i:=i);have hs:=yaL (f:=rY) (g:=Reach.iD) (n:=aH) (k:=k) he;have hc:=kK (n:=aH) he;have hle:=kR (n:=aH) (xs:=xs) (i:=i+1);have hn:aH e=2*e.ySg.length+1+e.ySk.length:=rfl;generalize hM:dX rY Reach.iD aH k xs i=M at *;generalize hK:(k+(pI aH xs i:Int))=K at *;have hlt2:i<M.length:=by omega
   have g1:M[i]=Reach.iD e:=(zab.1 hg).2;have hself:∀a,(M.set i a)[i]?=some a:=λa=>zaX hlt2;have hgetD:∀a,(M.set i a)[i]?.getD []=a:=λa=>by rw[hself];rfl
   simp only[Reach.iD]at hg g1;have hk:0<=K:=by omega
   simp -dsimp -implicitDefEqProofs [fC hlt,hg,hl,hlt2,g1,hself,setAt];intro hlen
   repeat(refine⟨by first|exact hlt|(unfold inI;omega)|exact dQ (by omega),?_⟩)
   refine fU (k0:=3) (j:=0) (i:=(i:Int)) (r:=[.ow 2 (e.ySg.map ySc.enc),.i e.ySh,.ow 1 (e.ySk.map qC)]) (c:=.ow 2 (e.ySg.map ySc.enc)) (c':=.ow 2 (marked ylF 2 [] K e.ySg.length)) (yy5 e.ySg (K) (by omega) (by omega)) (by simp) rfl rfl rfl (by first|exact hself _|simpa using hg) rfl ⟨_,by rw[kE];simp,rfl,rfl,rfl⟩ (by simp[C.sz]) ?_;simp -dsimp -implicitDefEqProofs [setAt,hself,hlt2,hl]
   repeat(refine⟨by first|exact hlt|(unfold inI;omega)|exact dQ (by omega),?_⟩)
   refine fU (k0:=3) (j:=2) (i:=(i:Int)) (r:=[.ow 2 (marked ylF 2 [] K e.ySg.length),.i (K+2*(e.ySg.length:Int)),.ow 1 (e.ySk.map qC)]) (c:=.ow 1 (e.ySk.map qC)) (c':=.ow 1 (marked qC 1 [] (K+2*(e.ySg.length:Int)+1) e.ySk.length)) (mV e.ySk (K+2*(e.ySg.length:Int)+1) (by omega) (by omega)) (by simp) rfl rfl rfl (by first|exact hself _|simpa using hg) rfl ⟨_,by rw[kE];simp,rfl,rfl,rfl⟩ (by simp[C.sz]) ?_;simp -dsimp -implicitDefEqProofs [setAt,hself,hlt2,hl]
   repeat(refine⟨by first|exact hlt|(unfold inI;omega)|exact dQ (by omega)|exact gB hlt hlen,?_⟩)
   refine⟨i+1,hlt,by omega,?_⟩;simp only[rY]at hs;apply aB<;>simp[Obj.leO,hs,hself]<;>omega
  .have:i=xs.length:=by omega
   subst this;simp -dsimp -implicitDefEqProofs;intro _;rw[yaX (Nat.le_refl _),cO (Nat.le_refl _),zad (by rw[jD];exact Nat.le_refl _)];exact⟨rfl,rfl⟩
def yyz(xs:List Reach)(k:Int)(h0:0<=k)(h1:k+cnt aH xs<=8000000000000000000):qB prg 90 [.c (.sl 3 (dH yea aH k xs)),.c (.i k)] (.c (.i (k+cnt aH xs))):=by
 refine dB yoh ?_;simp -dsimp -implicitDefEqProofs [yeL];refine qA (ι:=Nat) (λi=>i<=xs.length) (λi=>xC [(0,.c (.sl 3 (dH yea aH k xs))),(1,.c (.i (k+pI aH xs i))),(5,.c (.i i))] []) (λi=>xs.length-i) 0 (by simp) (by apply aB<;>simp[jK]) ?_
 rintro i hi
 rcases zae i xs.length with hlt|hge
 .obtain⟨e,he⟩:∃e,xs[i]?=some e:=⟨_,zaa hlt⟩;have hg:=ydA (f:=yea) (n:=aH) (k:=k) he;have hc:=kK (n:=aH) he;have hle:=kR (n:=aH) (xs:=xs) (i:=i+1);have hn:aH e=2*e.ySg.length+1+e.ySk.length:=rfl;simp only[yea]at hg;generalize hK:(k+(pI aH xs i:Int))=K at *;have hk:0<=K:=by omega
  simp -dsimp -implicitDefEqProofs [jD,fC hlt,hg];intro hlen
  repeat(refine⟨by first|exact hlt|(unfold inI;omega)|exact dQ (by omega),?_⟩)
  refine aA (yyx e.ySg.length (K) (by omega) (by omega)) ?_;have n0:(K+2*(e.ySg.length:Int)<0)=False:=by simp;omega
  simp -dsimp -implicitDefEqProofs [n0,jD,fC hlt,hg]
  repeat(refine⟨by first|exact hlt|(unfold inI;omega)|exact dQ (by omega),?_⟩)
  refine aA (yhl e.ySk.length (K+2*(e.ySg.length:Int)+1) (by omega) (by omega)) ?_;have n2:(K+2*(e.ySg.length:Int)+1+(e.ySk.length:Int)<0)=False:=by simp;omega
  simp -dsimp -implicitDefEqProofs [n2,jD,fC hlt,hg]
  repeat(refine⟨by first|exact hlt|(unfold inI;omega)|exact dQ (by omega)|exact gB hlt hlen,?_⟩)
  refine⟨i+1,hlt,by omega,?_⟩;apply aB<;>simp<;>omega
 .have:i=xs.length:=by omega
  subst this;simp -dsimp -implicitDefEqProofs [jD];rw[cO (Nat.le_refl _)];intro _;rfl
def yHL(xs:List Way)(hl:yhE xs):nI prg 64 [.c (.sl 2 (xs.map Way.enc))] (.c (.ow 2 (xs.map Way.enc))):=by
 refine fF yl3 ?_;simp -dsimp -implicitDefEqProofs [yfz];intro hlen;have hl1:=hl.1;refine⟨by omega,?_⟩;refine qA (ι:=Nat) (λk=>k<=xs.length) (λk=>xC [(0,.c (.sl 2 (xs.map Way.enc))),(3,.own 7 2 xs.length),(4,.c (.i k))] [(7,.row 2 (partly Way.enc [.i 0,.i 0] xs k))]) (λk=>xs.length-k) 0 (by simp) (by apply aB<;>simp[mF]) ?_
 rintro k hk
 rcases zae k xs.length with hlt|hge
 .obtain⟨e,he⟩:∃e,xs[k]?=some e:=⟨_,zaa hlt⟩;have hs:=fG (f:=Way.enc) (z:=[.i 0,.i 0]) he;have hd:=qG (f:=Way.enc) (z:=[.i 0,.i 0]) (n:=2) rfl hlt;simp only[Way.enc]at hs;simp -dsimp -implicitDefEqProofs [he,fC hlt]
  refineλ_=>iF (yDF e) (by simp) rfl ?_
  simp -dsimp -implicitDefEqProofs [fC hlt,dG hk,hd,hs];exact⟨hlt,gB hlt hlen,k+1,hlt,by omega,by apply aB<;>simp⟩
 .simp -dsimp -implicitDefEqProofs [aG hge];intro _;rw[eG hge,jA]
def yaj(k:Int):List C:=[.i k,.i (k+1)]
def yB9(xs:List Way)(k:Int)(h0:0<=k)(h1:k+2*xs.length<=8000000000000000000):
 InF prg 82 (.c (cw 2 (xs.map Way.enc))) (.c (cw 2 (marked yaj 2 [] k xs.length))) [.c (.i k)] (.c (.i (k+2*xs.length))):=by
 rcases zas xs.length with hx|hx
 .have:xs=[]:=zai.1 hx;subst this;refine aK yij (by simp) (by simp) rfl λhwf=>?_;simp -dsimp -implicitDefEqProofs [yc3,marked];refine qA (ι:=Unit) (λ_=>True) (λ_=>xC [(0,.c (.sl 2 [])),(1,.c (.i k)),(5,.c (.i 0)),(1000000,.c (.sl 2 []))] []) (λ_=>0) () trivial (by apply aB<;>simp) ?_
  rintro _ _
  simp -dsimp -implicitDefEqProofs
 .rw[kH (by simpa using hx),kH (by rw[kE];exact hx)];refine aK yij (by simp) (by simp) rfl λhwf=>?_;simp -dsimp -implicitDefEqProofs [yc3];refine qA (ι:=Nat) (λi=>i<=xs.length) (λi=>xC [(0,.own 0 2 xs.length),(1,.c (.i (k+2*i))),(5,.c (.i i)),(1000000,.own 0 2 xs.length)] [(0,.row 2 (marked yaj 2 (xs.map Way.enc) k i))]) (λi=>xs.length-i) 0 (by simp) (by apply aB<;>simp[yaS]) ?_
  rintro i hi
  rcases zae i xs.length with hlt|hge
  .obtain⟨e,he⟩:∃e,xs[i]?=some e:=⟨_,zaa hlt⟩;have hg:=yb2 (mk:=yaj) (c:=2) (k:=k) (rows:=xs.map Way.enc) (i:=i) (r:=e.enc) (by simp[he]);have hl:=ybS (mk:=yaj) (c:=2) (k:=k) (rows:=xs.map Way.enc) (i:=i) (by simpa using hi);have hs:=ybU (mk:=yaj) (c:=2) (k:=k) (rows:=xs.map Way.enc) (i:=i) (by simpa using hlt);rw[zaj]at hl;generalize marked yaj 2 (xs.map Way.enc) k i=M at *;have hlt2:i<M.length:=by omega
   have hself:∀a,(M.set i a)[i]?=some a:=λa=>zaX hlt2;simp only[yaj]at hs;simp only[Way.enc]at hg;simp -dsimp -implicitDefEqProofs [fC hlt,hg,hl,hlt2,hself];intro hlen
   repeat(refine⟨by first|exact hlt|(unfold inI;omega)|(have:=zdf 3 (show 0<=k+2*(i:Int) by omega);have:=zcJ (k+2*(i:Int)) (b:=3) (by omega);unfold inI;omega),?_⟩)
   refine⟨i+1,hlt,by omega,?_⟩;apply aB<;>simp[hs,hself]<;>omega
  .have:i=xs.length:=by omega
   subst this;simp -dsimp -implicitDefEqProofs;intro _;have e:=ybJ (mk:=yaj) (c:=2) (rows:=xs.map Way.enc) (k:=k) (i:=xs.length) (by simp);rw[e,zaj,zad (by rw[kE];exact Nat.le_refl _)]
def yB1(n:Nat)(k:Int)(h0:0<=k)(h1:k+2*n<=8000000000000000000):qB prg 91 [.c (.sl 2 (marked yaj 2 [] k n)),.c (.i k)] (.c (.i (k+2*n))):=by
 refine dB yrw ?_;simp -dsimp -implicitDefEqProofs [yhX];refine qA (ι:=Nat) (λi=>i<=n) (λi=>xC [(0,.c (.sl 2 (marked yaj 2 [] k n))),(1,.c (.i (k+2*i))),(5,.c (.i i))] []) (λi=>n-i) 0 (by simp) (by apply aB<;>simp) ?_
 rintro i hi
 rcases zae i n with hlt|hge
 .have hg:=ydI (mk:=yaj) (c:=2) (k:=k) hlt;simp only[yaj]at hg;simp -dsimp -implicitDefEqProofs [kE,fC hlt,hg];intro hlen
  repeat(refine⟨by first|exact hlt|(unfold inI;omega)|exact dQ (by omega),?_⟩)
  refine⟨i+1,hlt,by omega,?_⟩;apply aB<;>simp<;>omega
 .have:i=n:=by omega
  subst this;simp -dsimp -implicitDefEqProofs [kE]
def yB5(xs:List ySf)(hl:ydx xs):nI prg 290 [.c (.sl 2 (xs.map ySf.enc))] (.c (.ow 2 (xs.map ySf.enc))):=by
 refine fF yif ?_;simp -dsimp -implicitDefEqProofs [yc7];intro hlen;have hl1:=hl.1;refine⟨by omega,?_⟩;refine qA (ι:=Nat) (λk=>k<=xs.length) (λk=>xC [(0,.c (.sl 2 (xs.map ySf.enc))),(3,.own 7 2 xs.length),(4,.c (.i k))] [(7,.row 2 (partly ySf.enc [.i 0,.i 0] xs k))]) (λk=>xs.length-k) 0 (by simp) (by apply aB<;>simp[mF]) ?_
 rintro k hk
 rcases zae k xs.length with hlt|hge
 .obtain⟨e,he⟩:∃e,xs[k]?=some e:=⟨_,zaa hlt⟩;have hs:=fG (f:=ySf.enc) (z:=[.i 0,.i 0]) he;have hd:=qG (f:=ySf.enc) (z:=[.i 0,.i 0]) (n:=2) rfl hlt;simp only[ySf.enc]at hs;simp -dsimp -implicitDefEqProofs [he,fC hlt]
  refineλ_=>iF (yxh e) (by simp) rfl ?_
  simp -dsimp -implicitDefEqProofs [fC hlt,dG hk,hd,hs];exact⟨hlt,gB hlt hlen,k+1,hlt,by omega,by apply aB<;>simp⟩
 .simp -dsimp -implicitDefEqProofs [aG hge];intro _;rw[eG hge,jA]
def qR(k:Int):List C:=[.i k,.i (k+1)]
def yx2(xs:List ySf)(k:Int)(h0:0<=k)(h1:k+2*xs.length<=8000000000000000000):
 InF prg 192 (.c (cw 2 (xs.map ySf.enc))) (.c (cw 2 (marked qR 2 [] k xs.length))) [.c (.i k)] (.c (.i (k+2*xs.length))):=by
 rcases zas xs.length with hx|hx
 .have:xs=[]:=zai.1 hx;subst this;refine aK yez (by simp) (by simp) rfl λhwf=>?_;simp -dsimp -implicitDefEqProofs [ybd,marked];refine qA (ι:=Unit) (λ_=>True) (λ_=>xC [(0,.c (.sl 2 [])),(1,.c (.i k)),(5,.c (.i 0)),(1000000,.c (.sl 2 []))] []) (λ_=>0) () trivial (by apply aB<;>simp) ?_
  rintro _ _
  simp -dsimp -implicitDefEqProofs
 .rw[kH (by simpa using hx),kH (by rw[kE];exact hx)];refine aK yez (by simp) (by simp) rfl λhwf=>?_;simp -dsimp -implicitDefEqProofs [ybd];refine qA (ι:=Nat) (λi=>i<=xs.length) (λi=>xC [(0,.own 0 2 xs.length),(1,.c (.i (k+2*i))),(5,.c (.i i)),(1000000,.own 0 2 xs.length)] [(0,.row 2 (marked qR 2 (xs.map ySf.enc) k i))]) (λi=>xs.length-i) 0 (by simp) (by apply aB<;>simp[yaS]) ?_
  rintro i hi
  rcases zae i xs.length with hlt|hge
  .obtain⟨e,he⟩:∃e,xs[i]?=some e:=⟨_,zaa hlt⟩;have hg:=yb2 (mk:=qR) (c:=2) (k:=k) (rows:=xs.map ySf.enc) (i:=i) (r:=e.enc) (by simp[he]);have hl:=ybS (mk:=qR) (c:=2) (k:=k) (rows:=xs.map ySf.enc) (i:=i) (by simpa using hi);have hs:=ybU (mk:=qR) (c:=2) (k:=k) (rows:=xs.map ySf.enc) (i:=i) (by simpa using hlt);rw[zaj]at hl;generalize marked qR 2 (xs.map ySf.enc) k i=M at *;have hlt2:i<M.length:=by omega
   have hself:∀a,(M.set i a)[i]?=some a:=λa=>zaX hlt2;simp only[qR]at hs;simp only[ySf.enc]at hg;simp -dsimp -implicitDefEqProofs [fC hlt,hg,hl,hlt2,hself];intro hlen
   repeat(refine⟨by first|exact hlt|(unfold inI;omega)|(have:=zdf 3 (show 0<=k+2*(i:Int) by omega);have:=zcJ (k+2*(i:Int)) (b:=3) (by omega);unfold inI;omega),?_⟩)
   refine⟨i+1,hlt,by omega,?_⟩;apply aB<;>simp[hs,hself]<;>omega
  .have:i=xs.length:=by omega
   subst this;simp -dsimp -implicitDefEqProofs;intro _;have e:=ybJ (mk:=qR) (c:=2) (rows:=xs.map ySf.enc) (k:=k) (i:=xs.length) (by simp);rw[e,zaj,zad (by rw[kE];exact Nat.le_refl _)]
def yys(n:Nat)(k:Int)(h0:0<=k)(h1:k+2*n<=8000000000000000000):qB prg 197 [.c (.sl 2 (marked qR 2 [] k n)),.c (.i k)] (.c (.i (k+2*n))):=by
 refine dB yoB ?_;simp -dsimp -implicitDefEqProofs [yfo];refine qA (ι:=Nat) (λi=>i<=n) (λi=>xC [(0,.c (.sl 2 (marked qR 2 [] k n))),(1,.c (.i (k+2*i))),(5,.c (.i i))] []) (λi=>n-i) 0 (by simp) (by apply aB<;>simp) ?_
 rintro i hi
 rcases zae i n with hlt|hge
 .have hg:=ydI (mk:=qR) (c:=2) (k:=k) hlt;simp only[qR]at hg;simp -dsimp -implicitDefEqProofs [kE,fC hlt,hg];intro hlen
  repeat(refine⟨by first|exact hlt|(unfold inI;omega)|exact dQ (by omega),?_⟩)
  refine⟨i+1,hlt,by omega,?_⟩;apply aB<;>simp<;>omega
 .have:i=n:=by omega
  subst this;simp -dsimp -implicitDefEqProofs [kE]
def ysi(xs:List yRT)(hl:aJ xs):nI prg 67 [.c (.sl 2 (xs.map yRT.enc))] (.c (.ot 2 (xs.map yRT.iD))):=by
 refine fF yiq ?_;simp -dsimp -implicitDefEqProofs [ycX];intro hlen;have hl1:=hl.1;refine⟨by omega,?_⟩;refine qA (ι:=Nat) (λk=>k<=xs.length) (λk=>xC [(0,.c (.sl 2 (xs.map yRT.enc))),(3,.own 7 2 xs.length),(4,.c (.i k))] [(7,.tr 2 0 (partly yRT.iD [.b false,.sl 1 []] xs k))]) (λk=>xs.length-k) 0 (by simp) (by apply aB<;>simp[mF,Obj.leO]) ?_
 rintro k hk
 rcases zae k xs.length with hlt|hge
 .obtain⟨e,he⟩:∃e,xs[k]?=some e:=⟨_,zaa hlt⟩;have hs:=fG (f:=yRT.iD) (z:=[.b false,.sl 1 []]) he;have hd:=qG (f:=yRT.iD) (z:=[.b false,.sl 1 []]) (n:=2) rfl hlt;simp only[yRT.iD]at hs;simp -dsimp -implicitDefEqProofs [he,fC hlt];intro _;refine sD (ylg e (hl.2 e (zac he))) (by simp) (dP (yRT.aF _)) (by simp[fD]) ?_;simp -dsimp -implicitDefEqProofs [fC hlt,dG hk,jA,hd,hs];exact⟨hlt,gB hlt hlen,k+1,hlt,by omega,by apply aB<;>simp[Obj.leO]⟩
 .simp -dsimp -implicitDefEqProofs [aG hge];intro _;rw[eG hge,jA]
def jC(e:yRT):Nat:=1+cnt nB e.Rows
def pR(k:Int)(e:yRT):List C:=[.b (decide (k.tmod 3=0)),.ot 1 (dH fB nB (k+1) e.Rows)]
def ycI(k:Int)(e:yRT):List C:=[.b (decide (k.tmod 3=0)),.sl 1 (dH fBs nB (k+1) e.Rows)]
def yhP(k:Int)(e:yRT):dO (pR k e)=some (ycI k e):=by simp[pR,ycI,dO,C.shr,lM yy7]
def ynJ(xs:List yRT)(k:Int)(h0:0<=k)(h1:k+cnt jC xs<=8000000000000000000):
 InF prg 85 (.c (ct 2 (xs.map yRT.iD))) (.c (ct 2 (dH pR jC k xs))) [.c (.i k)] (.c (.i (k+cnt jC xs))):=by
 rcases zas xs.length with hx|hx
 .have:xs=[]:=zai.1 hx;subst this;refine aK ye2 (by simp) (by simp) rfl λhwf=>?_;simp -dsimp -implicitDefEqProofs [ybr,dH,cnt];refine qA (ι:=Unit) (λ_=>True) (λ_=>xC [(0,.c (.sl 2 [])),(1,.c (.i k)),(5,.c (.i 0)),(1000000,.c (.sl 2 []))] []) (λ_=>0) () trivial (by apply aB<;>simp) ?_
  rintro _ _
  simp -dsimp -implicitDefEqProofs
 .rw[iY (by simpa using hx),iY (by rw[jD];exact hx)];refine aK ye2 (by simp) (by simp) rfl λhwf=>?_;simp -dsimp -implicitDefEqProofs [ybr];refine qA (ι:=Nat) (λi=>i<=xs.length) (λi=>xC [(0,.own 0 2 xs.length),(1,.c (.i (k+pI jC xs i))),(5,.c (.i i)),(1000000,.own 0 2 xs.length)] [(0,.tr 2 0 (dX pR yRT.iD jC k xs i))]) (λi=>xs.length-i) 0 (by simp) (by apply aB<;>simp[yD,jK,Obj.leO]) ?_
  rintro i hi
  rcases zae i xs.length with hlt|hge
  .obtain⟨e,he⟩:∃e,xs[i]?=some e:=⟨_,zaa hlt⟩;have hg:=yaO (f:=pR) (g:=yRT.iD) (n:=jC) (k:=k) he;have hl:=yaK (f:=pR) (g:=yRT.iD) (n:=jC) (k:=k) (xs:=xs) (i:=i);have hs:=yaL (f:=pR) (g:=yRT.iD) (n:=jC) (k:=k) he;have hc:=kK (n:=jC) he;have hle:=kR (n:=jC) (xs:=xs) (i:=i+1);have hn:jC e=1+cnt nB e.Rows:=rfl;generalize hM:dX pR yRT.iD jC k xs i=M at *;generalize hK:(k+(pI jC xs i:Int))=K at *;have hlt2:i<M.length:=by omega
   have g1:M[i]=yRT.iD e:=(zab.1 hg).2;have hself:∀a,(M.set i a)[i]?=some a:=λa=>zaX hlt2;have hgetD:∀a,(M.set i a)[i]?.getD []=a:=λa=>by rw[hself];rfl
   simp only[yRT.iD]at hg g1;have hk:0<=K:=by omega
   simp -dsimp -implicitDefEqProofs [fC hlt,hg,hl,hlt2,g1,hself,setAt];intro hlen
   repeat(refine⟨by first|exact hlt|(unfold inI;omega)|exact dQ (by omega),?_⟩)
   refine fU (k0:=2) (j:=1) (i:=(i:Int)) (r:=[.b (decide (K.tmod 3=0)),.ot 1 (e.Rows.map jF)]) (c:=.ot 1 (e.Rows.map jF)) (c':=.ot 1 (dH fB nB (K+1) e.Rows)) (ydw e.Rows (K+1) (by omega) (by omega)) (by simp) rfl rfl rfl (by first|exact hself _|simpa using hg) rfl ⟨_,by rw[jD];simp,rfl,rfl,rfl⟩ (by simp[C.sz]) ?_;simp -dsimp -implicitDefEqProofs [setAt,hself,hlt2,hl]
   repeat(refine⟨by first|exact hlt|(unfold inI;omega)|exact dQ (by omega)|exact gB hlt hlen,?_⟩)
   refine⟨i+1,hlt,by omega,?_⟩;simp only[pR]at hs;apply aB<;>simp[Obj.leO,hs,hself]<;>omega
  .have:i=xs.length:=by omega
   subst this;simp -dsimp -implicitDefEqProofs;intro _;rw[yaX (Nat.le_refl _),cO (Nat.le_refl _),zad (by rw[jD];exact Nat.le_refl _)];exact⟨rfl,rfl⟩
def yos(xs:List yRT)(k:Int)(h0:0<=k)(h1:k+cnt jC xs<=8000000000000000000):qB prg 94 [.c (.sl 2 (dH ycI jC k xs)),.c (.i k)] (.c (.i (k+cnt jC xs))):=by
 refine dB ynM ?_;simp -dsimp -implicitDefEqProofs [yeJ];refine qA (ι:=Nat) (λi=>i<=xs.length) (λi=>xC [(0,.c (.sl 2 (dH ycI jC k xs))),(1,.c (.i (k+pI jC xs i))),(5,.c (.i i))] []) (λi=>xs.length-i) 0 (by simp) (by apply aB<;>simp[jK]) ?_
 rintro i hi
 rcases zae i xs.length with hlt|hge
 .obtain⟨e,he⟩:∃e,xs[i]?=some e:=⟨_,zaa hlt⟩;have hg:=ydA (f:=ycI) (n:=jC) (k:=k) he;have hc:=kK (n:=jC) he;have hle:=kR (n:=jC) (xs:=xs) (i:=i+1);have hn:jC e=1+cnt nB e.Rows:=rfl;simp only[ycI]at hg;generalize hK:(k+(pI jC xs i:Int))=K at *;have hk:0<=K:=by omega
  simp -dsimp -implicitDefEqProofs [jD,fC hlt,hg];intro hlen
  repeat(refine⟨by first|exact hlt|(unfold inI;omega)|exact dQ (by omega),?_⟩)
  refine aA (ydB e.Rows (K+1) (by omega) (by omega)) ?_;have n1:(K+1+(cnt nB e.Rows:Int)<0)=False:=by simp;omega
  simp -dsimp -implicitDefEqProofs [n1,jD,fC hlt,hg]
  repeat(refine⟨by first|exact hlt|(unfold inI;omega)|exact dQ (by omega)|exact gB hlt hlen,?_⟩)
  refine⟨i+1,hlt,by omega,?_⟩;apply aB<;>simp<;>omega
 .have:i=xs.length:=by omega
  subst this;simp -dsimp -implicitDefEqProofs [jD];rw[cO (Nat.le_refl _)];intro _;rfl
@[simp] def yR4.iD(e:yR4):List C:=[.b e.yRT.Up,.ot 1 (e.yRT.Rows.map jF),.i e.Since,.i e.Booked]
def yR4.bF(e:yR4):dO e.iD=some e.enc:=by simp[yR4.iD,dO,yY yI]
def yR4.aF(e:yR4):∀c∈e.iD,c.closed:=by
 simp only[yR4.iD,zaH,zba,or_false,forall_eq_or_imp,forall_eq];exact⟨by simp[C.closed],iJ yeK _ _,by simp[C.closed],by simp[C.closed]⟩
def yG0(e:yR4)(hl:yR4.small e):nI prg 345 [.agg (e.enc.map .c)] (.agg (e.iD.map .c)):=by
 refine fF yl2 ?_;simp -dsimp -implicitDefEqProofs [yfA];refine sD (ylg e.yRT hl) (by simp) (dP (yRT.aF _)) (by simp[fD]) ?_;simp -dsimp -implicitDefEqProofs [jA]
def yEK(xs:List yR4)(hl:oM xs):nI prg 292 [.c (.sl 4 (xs.map yR4.enc))] (.c (.ot 4 (xs.map yR4.iD))):=by
 refine fF yjS ?_;simp -dsimp -implicitDefEqProofs [yed];intro hlen;have hl1:=hl.1;refine⟨by omega,?_⟩;refine qA (ι:=Nat) (λk=>k<=xs.length) (λk=>xC [(0,.c (.sl 4 (xs.map yR4.enc))),(3,.own 7 4 xs.length),(4,.c (.i k))] [(7,.tr 4 0 (partly yR4.iD [.b false,.sl 1 [],.i 0,.i 0] xs k))]) (λk=>xs.length-k) 0 (by simp) (by apply aB<;>simp[mF,Obj.leO]) ?_
 rintro k hk
 rcases zae k xs.length with hlt|hge
 .obtain⟨e,he⟩:∃e,xs[k]?=some e:=⟨_,zaa hlt⟩;have hs:=fG (f:=yR4.iD) (z:=[.b false,.sl 1 [],.i 0,.i 0]) he;have hd:=qG (f:=yR4.iD) (z:=[.b false,.sl 1 [],.i 0,.i 0]) (n:=4) rfl hlt;simp only[yR4.iD]at hs;simp -dsimp -implicitDefEqProofs [he,fC hlt];intro _;refine sD (yG0 e (hl.2 e (zac he))) (by simp) (dP (yR4.aF _)) (by simp[fD]) ?_;simp -dsimp -implicitDefEqProofs [fC hlt,dG hk,jA,hd,hs];exact⟨hlt,gB hlt hlen,k+1,hlt,by omega,by apply aB<;>simp[Obj.leO]⟩
 .simp -dsimp -implicitDefEqProofs [aG hge];intro _;rw[eG hge,jA]
def gI(e:yR4):Nat:=1+cnt nB e.yRT.Rows+1+1
def ybu(k:Int)(e:yR4):List C:=[.b (decide (k.tmod 3=0)),.ot 1 (dH fB nB (k+1) e.yRT.Rows),.i (k+1+(cnt nB e.yRT.Rows:Int)),.i (k+1+(cnt nB e.yRT.Rows:Int)+1)]
def yhs(k:Int)(e:yR4):List C:=[.b (decide (k.tmod 3=0)),.sl 1 (dH fBs nB (k+1) e.yRT.Rows),.i (k+1+(cnt nB e.yRT.Rows:Int)),.i (k+1+(cnt nB e.yRT.Rows:Int)+1)]
def yjl(k:Int)(e:yR4):dO (ybu k e)=some (yhs k e):=by simp[ybu,yhs,dO,C.shr,lM yy7]
def yAn(xs:List yR4)(k:Int)(h0:0<=k)(h1:k+cnt gI xs<=8000000000000000000):
 InF prg 193 (.c (ct 4 (xs.map yR4.iD))) (.c (ct 4 (dH ybu gI k xs))) [.c (.i k)] (.c (.i (k+cnt gI xs))):=by
 rcases zas xs.length with hx|hx
 .have:xs=[]:=zai.1 hx;subst this;refine aK yf1 (by simp) (by simp) rfl λhwf=>?_;simp -dsimp -implicitDefEqProofs [yb8,dH,cnt];refine qA (ι:=Unit) (λ_=>True) (λ_=>xC [(0,.c (.sl 4 [])),(1,.c (.i k)),(5,.c (.i 0)),(1000000,.c (.sl 4 []))] []) (λ_=>0) () trivial (by apply aB<;>simp) ?_
  rintro _ _
  simp -dsimp -implicitDefEqProofs
 .rw[iY (by simpa using hx),iY (by rw[jD];exact hx)];refine aK yf1 (by simp) (by simp) rfl λhwf=>?_;simp -dsimp -implicitDefEqProofs [yb8];refine qA (ι:=Nat) (λi=>i<=xs.length) (λi=>xC [(0,.own 0 4 xs.length),(1,.c (.i (k+pI gI xs i))),(5,.c (.i i)),(1000000,.own 0 4 xs.length)] [(0,.tr 4 0 (dX ybu yR4.iD gI k xs i))]) (λi=>xs.length-i) 0 (by simp) (by apply aB<;>simp[yD,jK,Obj.leO]) ?_
  rintro i hi
  rcases zae i xs.length with hlt|hge
  .obtain⟨e,he⟩:∃e,xs[i]?=some e:=⟨_,zaa hlt⟩;have hg:=yaO (f:=ybu) (g:=yR4.iD) (n:=gI) (k:=k) he;have hl:=yaK (f:=ybu) (g:=yR4.iD) (n:=gI) (k:=k) (xs:=xs) (i:=i);have hs:=yaL (f:=ybu) (g:=yR4.iD) (n:=gI) (k:=k) he;have hc:=kK (n:=gI) he;have hle:=kR (n:=gI) (xs:=xs) (i:=i+1);have hn:gI e=1+cnt nB e.yRT.Rows+1+1:=rfl;generalize hM:dX ybu yR4.iD gI k xs i=M at *;generalize hK:(k+(pI gI xs i:Int))=K at *;have hlt2:i<M.length:=by omega
   have g1:M[i]=yR4.iD e:=(zab.1 hg).2;have hself:∀a,(M.set i a)[i]?=some a:=λa=>zaX hlt2;have hgetD:∀a,(M.set i a)[i]?.getD []=a:=λa=>by rw[hself];rfl
   simp only[yR4.iD]at hg g1;have hk:0<=K:=by omega
   simp -dsimp -implicitDefEqProofs [fC hlt,hg,hl,hlt2,g1,hself,setAt];intro hlen
   repeat(refine⟨by first|exact hlt|(unfold inI;omega)|exact dQ (by omega),?_⟩)
   refine fU (k0:=4) (j:=1) (i:=(i:Int)) (r:=[.b (decide (K.tmod 3=0)),.ot 1 (e.yRT.Rows.map jF),.i e.Since,.i e.Booked]) (c:=.ot 1 (e.yRT.Rows.map jF)) (c':=.ot 1 (dH fB nB (K+1) e.yRT.Rows)) (ydw e.yRT.Rows (K+1) (by omega) (by omega)) (by simp) rfl rfl rfl (by first|exact hself _|simpa using hg) rfl ⟨_,by rw[jD];simp,rfl,rfl,rfl⟩ (by simp[C.sz]) ?_;simp -dsimp -implicitDefEqProofs [setAt,hself,hlt2,hl]
   repeat(refine⟨by first|exact hlt|(unfold inI;omega)|exact dQ (by omega)|exact gB hlt hlen,?_⟩)
   refine⟨i+1,hlt,by omega,?_⟩;simp only[ybu]at hs;apply aB<;>simp[Obj.leO,hs,hself]<;>omega
  .have:i=xs.length:=by omega
   subst this;simp -dsimp -implicitDefEqProofs;intro _;rw[yaX (Nat.le_refl _),cO (Nat.le_refl _),zad (by rw[jD];exact Nat.le_refl _)];exact⟨rfl,rfl⟩
def yzQ(xs:List yR4)(k:Int)(h0:0<=k)(h1:k+cnt gI xs<=8000000000000000000):qB prg 198 [.c (.sl 4 (dH yhs gI k xs)),.c (.i k)] (.c (.i (k+cnt gI xs))):=by
 refine dB ypy ?_;simp -dsimp -implicitDefEqProofs [yf5];refine qA (ι:=Nat) (λi=>i<=xs.length) (λi=>xC [(0,.c (.sl 4 (dH yhs gI k xs))),(1,.c (.i (k+pI gI xs i))),(5,.c (.i i))] []) (λi=>xs.length-i) 0 (by simp) (by apply aB<;>simp[jK]) ?_
 rintro i hi
 rcases zae i xs.length with hlt|hge
 .obtain⟨e,he⟩:∃e,xs[i]?=some e:=⟨_,zaa hlt⟩;have hg:=ydA (f:=yhs) (n:=gI) (k:=k) he;have hc:=kK (n:=gI) he;have hle:=kR (n:=gI) (xs:=xs) (i:=i+1);have hn:gI e=1+cnt nB e.yRT.Rows+1+1:=rfl;simp only[yhs]at hg;generalize hK:(k+(pI gI xs i:Int))=K at *;have hk:0<=K:=by omega
  simp -dsimp -implicitDefEqProofs [jD,fC hlt,hg];intro hlen
  repeat(refine⟨by first|exact hlt|(unfold inI;omega)|exact dQ (by omega),?_⟩)
  refine aA (ydB e.yRT.Rows (K+1) (by omega) (by omega)) ?_;have n1:(K+1+(cnt nB e.yRT.Rows:Int)<0)=False:=by simp;omega
  simp -dsimp -implicitDefEqProofs [n1,jD,fC hlt,hg]
  repeat(refine⟨by first|exact hlt|(unfold inI;omega)|exact dQ (by omega)|exact gB hlt hlen,?_⟩)
  refine⟨i+1,hlt,by omega,?_⟩;apply aB<;>simp<;>omega
 .have:i=xs.length:=by omega
  subst this;simp -dsimp -implicitDefEqProofs [jD];rw[cO (Nat.le_refl _)];intro _;rfl
@[simp] def yR0.iD(e:yR0):List C:=[.i e.Length,.i e.Width,.i e.ySi,.i e.ySj,.i e.Base,.i e.Area,.i e.ySs,.i e.ySn,.i e.Gate,.ot 2 (e.yRY.map yRT.iD)]
def yR0.bF(e:yR0):dO e.iD=some e.enc:=by simp[yR0.iD,dO,yY yRT.bF]
def yR0.aF(e:yR0):∀c∈e.iD,c.closed:=by
 simp only[yR0.iD,zaH,zba,or_false,forall_eq_or_imp,forall_eq];exact⟨by simp[C.closed],by simp[C.closed],by simp[C.closed],by simp[C.closed],by simp[C.closed],by simp[C.closed],by simp[C.closed],by simp[C.closed],by simp[C.closed],iJ yRT.aF _ _⟩
set_option maxRecDepth 20000 in
def yGD(e:yR0)(hl:yR0.small e):nI prg 287 [.agg (e.enc.map .c)] (.agg (e.iD.map .c)):=by
 refine fF ymh ?_;simp -dsimp -implicitDefEqProofs [yfD];refine sD (ysi e.yRY hl) (by simp) (iJ yRT.aF _ _) (by simp[fD]) ?_;simp -dsimp -implicitDefEqProofs [jA]
@[simp] def yR8.iD(e:yR8):List C:=[.i e.yR0.Length,.i e.yR0.Width,.i e.yR0.ySi,.i e.yR0.ySj,.i e.yR0.Base,.i e.yR0.Area,.i e.yR0.ySs,.i e.yR0.ySn,.i e.yR0.Gate,.ot 2 (e.yR0.yRY.map yRT.iD),.i e.ySp.ySu,.i e.ySp.Open,.i e.ySp.Step,.i e.ySp.ySy,.i e.ySp.Width,.i e.Rule.Low,.i e.Rule.High,.i e.Rule.ySx,.ow 2 (e.Pauses.map ySf.enc),.b e.Turn.Up,.i e.Turn.Count,.ot 4 (e.Calls.map yR4.iD)]
def yR8.bF(e:yR8):dO e.iD=some e.enc:=by simp[yR8.iD,dO,yY yRT.bF,yY yR4.bF]
def yR8.aF(e:yR8):∀c∈e.iD,c.closed:=by
 simp only[yR8.iD,zaH,zba,or_false,forall_eq_or_imp,forall_eq];exact⟨by simp[C.closed],by simp[C.closed],by simp[C.closed],by simp[C.closed],by simp[C.closed],by simp[C.closed],by simp[C.closed],by simp[C.closed],by simp[C.closed],iJ yRT.aF _ _,by simp[C.closed],by simp[C.closed],by simp[C.closed],by simp[C.closed],by simp[C.closed],by simp[C.closed],by simp[C.closed],by simp[C.closed],by simp[C.closed],by simp[C.closed],by simp[C.closed],iJ yR4.aF _ _⟩
set_option maxRecDepth 20000 in
def yF7(e:yR8)(hl:yR8.small e):nI prg 179 [.agg (e.enc.map .c)] (.agg (e.iD.map .c)):=by
 refine fF ymt ?_;simp -dsimp -implicitDefEqProofs [yfy];refine sD (yGD e.yR0 hl.1) (by simp) (dP (yR0.aF _)) (by simp[fD]) ?_;simp -dsimp -implicitDefEqProofs [jA];refine aA (yAO e.ySp) ?_;simp -dsimp -implicitDefEqProofs;refine aA (yzY e.Rule) ?_;simp -dsimp -implicitDefEqProofs;refine sD (yB5 e.Pauses hl.2.1) (by simp) (by simp[AV.closed,AV.jI,C.closed]) (by simp[fD]) ?_;simp -dsimp -implicitDefEqProofs [jA];refine aA (yAs e.Turn) ?_;simp -dsimp -implicitDefEqProofs;refine sD (yEK e.Calls hl.2.2) (by simp) (iJ yR4.aF _ _) (by simp[fD]) ?_;simp -dsimp -implicitDefEqProofs [jA]
set_option maxRecDepth 20000 in
def yEb(xs:List yR8)(hl:ycw xs):nI prg 65 [.c (.sl 22 (xs.map yR8.enc))] (.c (.ot 22 (xs.map yR8.iD))):=by
 refine fF ykA ?_;simp -dsimp -implicitDefEqProofs [yee];intro hlen;have hl1:=hl.1;refine⟨by omega,?_⟩;refine qA (ι:=Nat) (λk=>k<=xs.length) (λk=>xC [(0,.c (.sl 22 (xs.map yR8.enc))),(3,.own 7 22 xs.length),(4,.c (.i k))] [(7,.tr 22 0 (partly yR8.iD [.i 0,.i 0,.i 0,.i 0,.i 0,.i 0,.i 0,.i 0,.i 0,.sl 2 [],.i 0,.i 0,.i 0,.i 0,.i 0,.i 0,.i 0,.i 0,.sl 2 [],.b false,.i 0,.sl 4 []] xs k))]) (λk=>xs.length-k) 0 (by simp) (by apply aB<;>simp[mF,Obj.leO]) ?_
 rintro k hk
 rcases zae k xs.length with hlt|hge
 .obtain⟨e,he⟩:∃e,xs[k]?=some e:=⟨_,zaa hlt⟩;have hs:=fG (f:=yR8.iD) (z:=[.i 0,.i 0,.i 0,.i 0,.i 0,.i 0,.i 0,.i 0,.i 0,.sl 2 [],.i 0,.i 0,.i 0,.i 0,.i 0,.i 0,.i 0,.i 0,.sl 2 [],.b false,.i 0,.sl 4 []]) he;have hd:=qG (f:=yR8.iD) (z:=[.i 0,.i 0,.i 0,.i 0,.i 0,.i 0,.i 0,.i 0,.i 0,.sl 2 [],.i 0,.i 0,.i 0,.i 0,.i 0,.i 0,.i 0,.i 0,.sl 2 [],.b false,.i 0,.sl 4 []]) (n:=22) rfl hlt;simp only[yR8.iD]at hs;simp -dsimp -implicitDefEqProofs [he,fC hlt];intro _;refine sD (yF7 e (hl.2 e (zac he))) (by simp) (dP (yR8.aF _)) (by simp[fD]) ?_;simp -dsimp -implicitDefEqProofs [fC hlt,dG hk,jA,hd,hs];exact⟨hlt,gB hlt hlen,k+1,hlt,by omega,by apply aB<;>simp[Obj.leO]⟩
 .simp -dsimp -implicitDefEqProofs [aG hge];intro _;rw[eG hge,jA]
def iI(e:yR8):Nat:=1+1+1+1+1+1+1+1+1+cnt jC e.yR0.yRY+1+1+1+1+1+1+1+1+2*e.Pauses.length+1+1+cnt gI e.Calls
def yax(k:Int)(e:yR8):List C:=[.i k,.i (k+1),.i (k+1+1),.i (k+1+1+1),.i (k+1+1+1+1),.i (k+1+1+1+1+1),.i (k+1+1+1+1+1+1),.i (k+1+1+1+1+1+1+1),.i (k+1+1+1+1+1+1+1+1),.ot 2 (dH pR jC (k+1+1+1+1+1+1+1+1+1) e.yR0.yRY),.i (k+1+1+1+1+1+1+1+1+1+(cnt jC e.yR0.yRY:Int)),.i (k+1+1+1+1+1+1+1+1+1+(cnt jC e.yR0.yRY:Int)+1),.i (k+1+1+1+1+1+1+1+1+1+(cnt jC e.yR0.yRY:Int)+1+1),.i (k+1+1+1+1+1+1+1+1+1+(cnt jC e.yR0.yRY:Int)+1+1+1),.i (k+1+1+1+1+1+1+1+1+1+(cnt jC e.yR0.yRY:Int)+1+1+1+1),.i (k+1+1+1+1+1+1+1+1+1+(cnt jC e.yR0.yRY:Int)+1+1+1+1+1),.i (k+1+1+1+1+1+1+1+1+1+(cnt jC e.yR0.yRY:Int)+1+1+1+1+1+1),.i (k+1+1+1+1+1+1+1+1+1+(cnt jC e.yR0.yRY:Int)+1+1+1+1+1+1+1),.ow 2 (marked qR 2 [] (k+1+1+1+1+1+1+1+1+1+(cnt jC e.yR0.yRY:Int)+1+1+1+1+1+1+1+1) e.Pauses.length),.b (decide ((k+1+1+1+1+1+1+1+1+1+(cnt jC e.yR0.yRY:Int)+1+1+1+1+1+1+1+1+2*(e.Pauses.length:Int)).tmod 3=0)),.i (k+1+1+1+1+1+1+1+1+1+(cnt jC e.yR0.yRY:Int)+1+1+1+1+1+1+1+1+2*(e.Pauses.length:Int)+1),.ot 4 (dH ybu gI (k+1+1+1+1+1+1+1+1+1+(cnt jC e.yR0.yRY:Int)+1+1+1+1+1+1+1+1+2*(e.Pauses.length:Int)+1+1) e.Calls)]
def yhA(k:Int)(e:yR8):List C:=[.i k,.i (k+1),.i (k+1+1),.i (k+1+1+1),.i (k+1+1+1+1),.i (k+1+1+1+1+1),.i (k+1+1+1+1+1+1),.i (k+1+1+1+1+1+1+1),.i (k+1+1+1+1+1+1+1+1),.sl 2 (dH ycI jC (k+1+1+1+1+1+1+1+1+1) e.yR0.yRY),.i (k+1+1+1+1+1+1+1+1+1+(cnt jC e.yR0.yRY:Int)),.i (k+1+1+1+1+1+1+1+1+1+(cnt jC e.yR0.yRY:Int)+1),.i (k+1+1+1+1+1+1+1+1+1+(cnt jC e.yR0.yRY:Int)+1+1),.i (k+1+1+1+1+1+1+1+1+1+(cnt jC e.yR0.yRY:Int)+1+1+1),.i (k+1+1+1+1+1+1+1+1+1+(cnt jC e.yR0.yRY:Int)+1+1+1+1),.i (k+1+1+1+1+1+1+1+1+1+(cnt jC e.yR0.yRY:Int)+1+1+1+1+1),.i (k+1+1+1+1+1+1+1+1+1+(cnt jC e.yR0.yRY:Int)+1+1+1+1+1+1),.i (k+1+1+1+1+1+1+1+1+1+(cnt jC e.yR0.yRY:Int)+1+1+1+1+1+1+1),.sl 2 (marked qR 2 [] (k+1+1+1+1+1+1+1+1+1+(cnt jC e.yR0.yRY:Int)+1+1+1+1+1+1+1+1) e.Pauses.length),.b (decide ((k+1+1+1+1+1+1+1+1+1+(cnt jC e.yR0.yRY:Int)+1+1+1+1+1+1+1+1+2*(e.Pauses.length:Int)).tmod 3=0)),.i (k+1+1+1+1+1+1+1+1+1+(cnt jC e.yR0.yRY:Int)+1+1+1+1+1+1+1+1+2*(e.Pauses.length:Int)+1),.sl 4 (dH yhs gI (k+1+1+1+1+1+1+1+1+1+(cnt jC e.yR0.yRY:Int)+1+1+1+1+1+1+1+1+2*(e.Pauses.length:Int)+1+1) e.Calls)]
def yqD(k:Int)(e:yR8):dO (yax k e)=some (yhA k e):=by simp[yax,yhA,dO,C.shr,lM yjl,lM yhP]
set_option maxRecDepth 20000 in
def yAp(xs:List yR8)(k:Int)(h0:0<=k)(h1:k+cnt iI xs<=8000000000000000000):
 InF prg 83 (.c (ct 22 (xs.map yR8.iD))) (.c (ct 22 (dH yax iI k xs))) [.c (.i k)] (.c (.i (k+cnt iI xs))):=by
 rcases zas xs.length with hx|hx
 .have:xs=[]:=zai.1 hx;subst this;refine aK ygm (by simp) (by simp) rfl λhwf=>?_;simp -dsimp -implicitDefEqProofs [ybK,dH,cnt];refine qA (ι:=Unit) (λ_=>True) (λ_=>xC [(0,.c (.sl 22 [])),(1,.c (.i k)),(5,.c (.i 0)),(1000000,.c (.sl 22 []))] []) (λ_=>0) () trivial (by apply aB<;>simp) ?_
  rintro _ _
  simp -dsimp -implicitDefEqProofs
 .rw[iY (by simpa using hx),iY (by rw[jD];exact hx)];refine aK ygm (by simp) (by simp) rfl λhwf=>?_;simp -dsimp -implicitDefEqProofs [ybK];refine qA (ι:=Nat) (λi=>i<=xs.length) (λi=>xC [(0,.own 0 22 xs.length),(1,.c (.i (k+pI iI xs i))),(5,.c (.i i)),(1000000,.own 0 22 xs.length)] [(0,.tr 22 0 (dX yax yR8.iD iI k xs i))]) (λi=>xs.length-i) 0 (by simp) (by apply aB<;>simp[yD,jK,Obj.leO]) ?_
  rintro i hi
  rcases zae i xs.length with hlt|hge
  .obtain⟨e,he⟩:∃e,xs[i]?=some e:=⟨_,zaa hlt⟩;have hg:=yaO (f:=yax) (g:=yR8.iD) (n:=iI) (k:=k) he;have hl:=yaK (f:=yax) (g:=yR8.iD) (n:=iI) (k:=k) (xs:=xs) (i:=i);have hs:=yaL (f:=yax) (g:=yR8.iD) (n:=iI) (k:=k) he;have hc:=kK (n:=iI) he;have hle:=kR (n:=iI) (xs:=xs) (i:=i+1);have hn:iI e=1+1+1+1+1+1+1+1+1+cnt jC e.yR0.yRY+1+1+1+1+1+1+1+1+2*e.Pauses.length+1+1+cnt gI e.Calls:=rfl;generalize hM:dX yax yR8.iD iI k xs i=M at *;generalize hK:(k+(pI iI xs i:Int))=K at *;have hlt2:i<M.length:=by omega
   have g1:M[i]=yR8.iD e:=(zab.1 hg).2;have hself:∀a,(M.set i a)[i]?=some a:=λa=>zaX hlt2;have hgetD:∀a,(M.set i a)[i]?.getD []=a:=λa=>by rw[hself];rfl
   simp only[yR8.iD]at hg g1;have hk:0<=K:=by omega
   simp -dsimp -implicitDefEqProofs [fC hlt,hg,hl,hlt2,g1,hself,setAt];intro hlen
   repeat(refine⟨by first|exact hlt|(unfold inI;omega)|exact dQ (by omega),?_⟩)
   refine fU (k0:=22) (j:=9) (i:=(i:Int)) (r:=[.i K,.i (K+1),.i (K+1+1),.i (K+1+1+1),.i (K+1+1+1+1),.i (K+1+1+1+1+1),.i (K+1+1+1+1+1+1),.i (K+1+1+1+1+1+1+1),.i (K+1+1+1+1+1+1+1+1),.ot 2 (e.yR0.yRY.map yRT.iD),.i e.ySp.ySu,.i e.ySp.Open,.i e.ySp.Step,.i e.ySp.ySy,.i e.ySp.Width,.i e.Rule.Low,.i e.Rule.High,.i e.Rule.ySx,.ow 2 (e.Pauses.map ySf.enc),.b e.Turn.Up,.i e.Turn.Count,.ot 4 (e.Calls.map yR4.iD)]) (c:=.ot 2 (e.yR0.yRY.map yRT.iD)) (c':=.ot 2 (dH pR jC (K+1+1+1+1+1+1+1+1+1) e.yR0.yRY)) (ynJ e.yR0.yRY (K+1+1+1+1+1+1+1+1+1) (by omega) (by omega)) (by simp) rfl rfl rfl (by first|exact hself _|simpa using hg) rfl ⟨_,by rw[jD];simp,rfl,rfl,rfl⟩ (by simp[C.sz]) ?_;simp -dsimp -implicitDefEqProofs [setAt,hself,hlt2,hl]
   repeat(refine⟨by first|exact hlt|(unfold inI;omega)|exact dQ (by omega),?_⟩)
   refine fU (k0:=22) (j:=18) (i:=(i:Int)) (r:=[.i K,.i (K+1),.i (K+1+1),.i (K+1+1+1),.i (K+1+1+1+1),.i (K+1+1+1+1+1),.i (K+1+1+1+1+1+1),.i (K+1+1+1+1+1+1+1),.i (K+1+1+1+1+1+1+1+1),.ot 2 (dH pR jC (K+1+1+1+1+1+1+1+1+1) e.yR0.yRY),.i (K+1+1+1+1+1+1+1+1+1+(cnt jC e.yR0.yRY:Int)),.i (K+1+1+1+1+1+1+1+1+1+(cnt jC e.yR0.yRY:Int)+1),.i (K+1+1+1+1+1+1+1+1+1+(cnt jC e.yR0.yRY:Int)+1+1),.i (K+1+1+1+1+1+1+1+1+1+(cnt jC e.yR0.yRY:Int)+1+1+1),.i (K+1+1+1+1+1+1+1+1+1+(cnt jC e.yR0.yRY:Int)+1+1+1+1),.i (K+1+1+1+1+1+1+1+1+1+(cnt jC e.yR0.yRY:Int)+1+1+1+1+1),.i (K+1+1+1+1+1+1+1+1+1+(cnt jC e.yR0.yRY:Int)+1+1+1+1+1+1),.i (K+1+1+1+1+1+1+1+1+1+(cnt jC e.yR0.yRY:Int)+1+1+1+1+1+1+1),.ow 2 (e.Pauses.map ySf.enc),.b e.Turn.Up,.i e.Turn.Count,.ot 4 (e.Calls.map yR4.iD)]) (c:=.ow 2 (e.Pauses.map ySf.enc)) (c':=.ow 2 (marked qR 2 [] (K+1+1+1+1+1+1+1+1+1+(cnt jC e.yR0.yRY:Int)+1+1+1+1+1+1+1+1) e.Pauses.length)) (yx2 e.Pauses (K+1+1+1+1+1+1+1+1+1+(cnt jC e.yR0.yRY:Int)+1+1+1+1+1+1+1+1) (by omega) (by omega)) (by simp) rfl rfl rfl (by first|exact hself _|simpa using hg) rfl ⟨_,by rw[kE];simp,rfl,rfl,rfl⟩ (by simp[C.sz]) ?_;simp -dsimp -implicitDefEqProofs [setAt,hself,hlt2,hl]
   repeat(refine⟨by first|exact hlt|(unfold inI;omega)|exact dQ (by omega),?_⟩)
   refine fU (k0:=22) (j:=21) (i:=(i:Int)) (r:=[.i K,.i (K+1),.i (K+1+1),.i (K+1+1+1),.i (K+1+1+1+1),.i (K+1+1+1+1+1),.i (K+1+1+1+1+1+1),.i (K+1+1+1+1+1+1+1),.i (K+1+1+1+1+1+1+1+1),.ot 2 (dH pR jC (K+1+1+1+1+1+1+1+1+1) e.yR0.yRY),.i (K+1+1+1+1+1+1+1+1+1+(cnt jC e.yR0.yRY:Int)),.i (K+1+1+1+1+1+1+1+1+1+(cnt jC e.yR0.yRY:Int)+1),.i (K+1+1+1+1+1+1+1+1+1+(cnt jC e.yR0.yRY:Int)+1+1),.i (K+1+1+1+1+1+1+1+1+1+(cnt jC e.yR0.yRY:Int)+1+1+1),.i (K+1+1+1+1+1+1+1+1+1+(cnt jC e.yR0.yRY:Int)+1+1+1+1),.i (K+1+1+1+1+1+1+1+1+1+(cnt jC e.yR0.yRY:Int)+1+1+1+1+1),.i (K+1+1+1+1+1+1+1+1+1+(cnt jC e.yR0.yRY:Int)+1+1+1+1+1+1),.i (K+1+1+1+1+1+1+1+1+1+(cnt jC e.yR0.yRY:Int)+1+1+1+1+1+1+1),.ow 2 (marked qR 2 [] (K+1+1+1+1+1+1+1+1+1+(cnt jC e.yR0.yRY:Int)+1+1+1+1+1+1+1+1) e.Pauses.length),.b (decide ((K+1+1+1+1+1+1+1+1+1+(cnt jC e.yR0.yRY:Int)+1+1+1+1+1+1+1+1+2*(e.Pauses.length:Int)).tmod 3=0)),.i (K+1+1+1+1+1+1+1+1+1+(cnt jC e.yR0.yRY:Int)+1+1+1+1+1+1+1+1+2*(e.Pauses.length:Int)+1),.ot 4 (e.Calls.map yR4.iD)]) (c:=.ot 4 (e.Calls.map yR4.iD)) (c':=.ot 4 (dH ybu gI (K+1+1+1+1+1+1+1+1+1+(cnt jC e.yR0.yRY:Int)+1+1+1+1+1+1+1+1+2*(e.Pauses.length:Int)+1+1) e.Calls)) (yAn e.Calls (K+1+1+1+1+1+1+1+1+1+(cnt jC e.yR0.yRY:Int)+1+1+1+1+1+1+1+1+2*(e.Pauses.length:Int)+1+1) (by omega) (by omega)) (by simp) rfl rfl rfl (by first|exact hself _|simpa using hg) rfl ⟨_,by rw[jD];simp,rfl,rfl,rfl⟩ (by simp[C.sz]) ?_;simp -dsimp -implicitDefEqProofs [setAt,hself,hlt2,hl]
   repeat(refine⟨by first|exact hlt|(unfold inI;omega)|exact dQ (by omega)|exact gB hlt hlen,?_⟩)
   refine⟨i+1,hlt,by omega,?_⟩;simp only[yax]at hs;apply aB<;>simp[Obj.leO,hs,hself]<;>omega
  .have:i=xs.length:=by omega
   subst this;simp -dsimp -implicitDefEqProofs;intro _;rw[yaX (Nat.le_refl _),cO (Nat.le_refl _),zad (by rw[jD];exact Nat.le_refl _)];exact⟨rfl,rfl⟩
set_option maxRecDepth 20000 in
def yAm(xs:List yR8)(k:Int)(h0:0<=k)(h1:k+cnt iI xs<=8000000000000000000):qB prg 92 [.c (.sl 22 (dH yhA iI k xs)),.c (.i k)] (.c (.i (k+cnt iI xs))):=by
 refine dB yqi ?_;simp -dsimp -implicitDefEqProofs [ygV];refine qA (ι:=Nat) (λi=>i<=xs.length) (λi=>xC [(0,.c (.sl 22 (dH yhA iI k xs))),(1,.c (.i (k+pI iI xs i))),(5,.c (.i i))] []) (λi=>xs.length-i) 0 (by simp) (by apply aB<;>simp[jK]) ?_
 rintro i hi
 rcases zae i xs.length with hlt|hge
 .obtain⟨e,he⟩:∃e,xs[i]?=some e:=⟨_,zaa hlt⟩;have hg:=ydA (f:=yhA) (n:=iI) (k:=k) he;have hc:=kK (n:=iI) he;have hle:=kR (n:=iI) (xs:=xs) (i:=i+1);have hn:iI e=1+1+1+1+1+1+1+1+1+cnt jC e.yR0.yRY+1+1+1+1+1+1+1+1+2*e.Pauses.length+1+1+cnt gI e.Calls:=rfl;simp only[yhA]at hg;generalize hK:(k+(pI iI xs i:Int))=K at *;have hk:0<=K:=by omega
  simp -dsimp -implicitDefEqProofs [jD,fC hlt,hg];intro hlen
  repeat(refine⟨by first|exact hlt|(unfold inI;omega)|exact dQ (by omega),?_⟩)
  refine aA (yos e.yR0.yRY (K+1+1+1+1+1+1+1+1+1) (by omega) (by omega)) ?_;have n9:(K+1+1+1+1+1+1+1+1+1+(cnt jC e.yR0.yRY:Int)<0)=False:=by simp;omega
  simp -dsimp -implicitDefEqProofs [n9,jD,fC hlt,hg]
  repeat(refine⟨by first|exact hlt|(unfold inI;omega)|exact dQ (by omega),?_⟩)
  refine aA (yys e.Pauses.length (K+1+1+1+1+1+1+1+1+1+(cnt jC e.yR0.yRY:Int)+1+1+1+1+1+1+1+1) (by omega) (by omega)) ?_;have n18:(K+1+1+1+1+1+1+1+1+1+(cnt jC e.yR0.yRY:Int)+1+1+1+1+1+1+1+1+2*(e.Pauses.length:Int)<0)=False:=by simp;omega
  simp -dsimp -implicitDefEqProofs [n18,jD,fC hlt,hg]
  repeat(refine⟨by first|exact hlt|(unfold inI;omega)|exact dQ (by omega),?_⟩)
  refine aA (yzQ e.Calls (K+1+1+1+1+1+1+1+1+1+(cnt jC e.yR0.yRY:Int)+1+1+1+1+1+1+1+1+2*(e.Pauses.length:Int)+1+1) (by omega) (by omega)) ?_;have n21:(K+1+1+1+1+1+1+1+1+1+(cnt jC e.yR0.yRY:Int)+1+1+1+1+1+1+1+1+2*(e.Pauses.length:Int)+1+1+(cnt gI e.Calls:Int)<0)=False:=by simp;omega
  simp -dsimp -implicitDefEqProofs [n21,jD,fC hlt,hg]
  repeat(refine⟨by first|exact hlt|(unfold inI;omega)|exact dQ (by omega)|exact gB hlt hlen,?_⟩)
  refine⟨i+1,hlt,by omega,?_⟩;apply aB<;>simp<;>omega
 .have:i=xs.length:=by omega
  subst this;simp -dsimp -implicitDefEqProofs [jD];rw[cO (Nat.le_refl _)];intro _;rfl
def xG(xs:List yR6):List C:=[.ot 3 (xs.map yR6.iD)]
def oV(xs:List yR6):dO (xG xs)=some (nD xs):=by simp[xG,dO,yY yR6.bF]
def yoj(xs:List yR6):∀c∈xG xs,c.closed:=by
 intro c hc;simp only[xG,zaq]at hc;subst hc;exact iJ yR6.aF _ _
def fMs(k:Int)(e:yR6):List C:=[.b (decide (k.tmod 3=0)),.sl 1 (dH fBs nB (k+1) e.yRT.Rows),.i (k+1+(cnt nB e.yRT.Rows:Int))]
def yLz(k:Int)(e:yR6):dO (fM k e)=some (fMs k e):=by simp[fM,fMs,dO,C.shr,lM yy7]
def yyK(xs:List yR6)(k:Int)(h0:0<=k)(h1:k+cnt nM xs<=8000000000000000000):qB prg 199 [.c (.sl 3 (dH fMs nM k xs)),.c (.i k)] (.c (.i (k+cnt nM xs))):=by
 refine dB yn4 ?_;simp -dsimp -implicitDefEqProofs [yeT];refine qA (ι:=Nat) (λi=>i<=xs.length) (λi=>xC [(0,.c (.sl 3 (dH fMs nM k xs))),(1,.c (.i (k+pI nM xs i))),(5,.c (.i i))] []) (λi=>xs.length-i) 0 (by simp) (by apply aB<;>simp[jK]) ?_
 rintro i hi
 rcases zae i xs.length with hlt|hge
 .obtain⟨e,he⟩:∃e,xs[i]?=some e:=⟨_,zaa hlt⟩;have hg:=ydA (f:=fMs) (n:=nM) (k:=k) he;have hc:=kK (n:=nM) he;have hle:=kR (n:=nM) (xs:=xs) (i:=i+1);have hn:nM e=1+cnt nB e.yRT.Rows+1:=rfl;simp only[fMs]at hg;generalize hK:(k+(pI nM xs i:Int))=K at *;have hk:0<=K:=by omega
  simp -dsimp -implicitDefEqProofs [jD,fC hlt,hg];intro hlen
  repeat(refine⟨by first|exact hlt|(unfold inI;omega)|exact dQ (by omega),?_⟩)
  refine aA (ydB e.yRT.Rows (K+1) (by omega) (by omega)) ?_;have n1:(K+1+(cnt nB e.yRT.Rows:Int)<0)=False:=by simp;omega
  simp -dsimp -implicitDefEqProofs [n1,jD,fC hlt,hg]
  repeat(refine⟨by first|exact hlt|(unfold inI;omega)|exact dQ (by omega)|exact gB hlt hlen,?_⟩)
  refine⟨i+1,hlt,by omega,?_⟩;apply aB<;>simp<;>omega
 .have:i=xs.length:=by omega
  subst this;simp -dsimp -implicitDefEqProofs [jD];rw[cO (Nat.le_refl _)];intro _;rfl
def yBm(xs:List (List yR6))(hl:yck xs):nI prg 66 [.c (.sl 1 (xs.map nD))] (.c (.ot 1 (xs.map xG))):=by
 refine fF ygo ?_;simp -dsimp -implicitDefEqProofs [yb1];intro hlen;have hl1:=hl.1;refine⟨by omega,yoL ?_⟩;simp -dsimp -implicitDefEqProofs;refine qA (ι:=Nat) (λk=>k<=xs.length) (λk=>xC [(0,.c (.sl 1 (xs.map nD))),(3,.own 7 1 xs.length),(4,.c (.i k))] [(7,.tr 1 0 (partly xG [.sl 3 []] xs k))]) (λk=>xs.length-k) 0 (by simp) (by apply aB<;>simp[mF,Obj.leO]) ?_
 rintro k hk
 rcases zae k xs.length with hlt|hge
 .obtain⟨e,he⟩:∃e,xs[k]?=some e:=⟨_,zaa hlt⟩;have hs:=fG (f:=xG) (z:=[.sl 3 []]) he
  have hd:((partly xG [.sl 3 []] xs k)[k]?.getD []).set 0 (.ot 3 (e.map yR6.iD))=xG e:=by
   have:=tX (f:=xG) (z:=[.sl 3 []]) (n:=1) rfl (λ_=>rfl) hlt;obtain⟨x,hx⟩:=zbg.1 this;rw[hx];rfl
  simp -dsimp -implicitDefEqProofs [he,fC hlt];intro _;refine sD (yB7 e (hl.2 e (zac he))) (by simp) (iJ yR6.aF _ _) (by simp[fD]) ?_;simp -dsimp -implicitDefEqProofs [fC hlt,dG hk,jA,setAt,hd,hs];exact⟨hlt,gB hlt hlen,k+1,hlt,by omega,by apply aB<;>simp[Obj.leO]⟩
 .simp -dsimp -implicitDefEqProofs [aG hge];intro _;rw[eG hge,jA]
def kG(r:List yR6):Nat:=cnt nM r
def xU(k:Int)(r:List yR6):List C:=[.ot 3 (dH fM nM k r)]
def yb6(k:Int)(r:List yR6):List C:=[.sl 3 (dH fMs nM k r)]
def yl8(k:Int)(e:List yR6):dO (xU k e)=some (yb6 k e):=by simp[xU,yb6,dO,C.shr,lM yLz]
def ywc(xs:List (List yR6))(k:Int)(h0:0<=k)(h1:k+cnt kG xs<=8000000000000000000):
 InF prg 84 (.c (ct 1 (xs.map xG))) (.c (ct 1 (dH xU kG k xs))) [.c (.i k)] (.c (.i (k+cnt kG xs))):=by
 rcases zas xs.length with hx|hx
 .have:xs=[]:=zai.1 hx;subst this;refine aK yeh (by simp) (by simp) rfl λhwf=>?_;simp -dsimp -implicitDefEqProofs [yaC,dH,cnt];refine qA (ι:=Unit) (λ_=>True) (λ_=>xC [(0,.c (.sl 1 [])),(1,.c (.i k)),(5,.c (.i 0)),(1000000,.c (.sl 1 []))] []) (λ_=>0) () trivial (by apply aB<;>simp) ?_
  rintro _ _
  simp -dsimp -implicitDefEqProofs
 .rw[iY (by simpa using hx),iY (by rw[jD];exact hx)];refine aK yeh (by simp) (by simp) rfl λhwf=>?_;simp -dsimp -implicitDefEqProofs [yaC];refine qA (ι:=Nat) (λi=>i<=xs.length) (λi=>xC [(0,.own 0 1 xs.length),(1,.c (.i (k+pI kG xs i))),(5,.c (.i i)),(1000000,.own 0 1 xs.length)] [(0,.tr 1 0 (dX xU xG kG k xs i))]) (λi=>xs.length-i) 0 (by simp) (by apply aB<;>simp[yD,jK,Obj.leO]) ?_
  rintro i hi
  rcases zae i xs.length with hlt|hge
  .obtain⟨e,he⟩:∃e,xs[i]?=some e:=⟨_,zaa hlt⟩;have hg:=yaO (f:=xU) (g:=xG) (n:=kG) (k:=k) he;have hl:=yaK (f:=xU) (g:=xG) (n:=kG) (k:=k) (xs:=xs) (i:=i);have hs:=yaL (f:=xU) (g:=xG) (n:=kG) (k:=k) he;have hc:=kK (n:=kG) he;have hle:=kR (n:=kG) (xs:=xs) (i:=i+1);have hn:kG e=cnt nM e:=rfl;generalize hM:dX xU xG kG k xs i=M at *;generalize hK:(k+(pI kG xs i:Int))=K at *;have hlt2:i<M.length:=by omega
   have g1:M[i]=xG e:=(zab.1 hg).2;have hself:∀a,(M.set i a)[i]?=some a:=λa=>zaX hlt2;have hgetD:∀a,(M.set i a)[i]?.getD []=a:=λa=>by rw[hself];rfl
   simp only[xG]at hg g1;have hk:0<=K:=by omega
   simp -dsimp -implicitDefEqProofs [fC hlt,hg,hl,hlt2,g1,hself,setAt];intro hlen
   repeat(refine⟨by first|exact hlt|(unfold inI;omega)|exact dQ (by omega),?_⟩)
   refine fU (k0:=1) (j:=0) (i:=(i:Int)) (r:=[.ot 3 (e.map yR6.iD)]) (c:=.ot 3 (e.map yR6.iD)) (c':=.ot 3 (dH fM nM K e)) (yyR e (K) (by omega) (by omega)) (by simp) rfl rfl rfl (by first|exact hself _|simpa using hg) rfl ⟨_,by rw[jD];simp,rfl,rfl,rfl⟩ (by simp[C.sz]) ?_;simp -dsimp -implicitDefEqProofs [setAt,hself,hlt2,hl]
   repeat(refine⟨by first|exact hlt|(unfold inI;omega)|exact dQ (by omega)|exact gB hlt hlen,?_⟩)
   refine⟨i+1,hlt,by omega,?_⟩;simp only[xU]at hs;apply aB<;>simp[Obj.leO,hs,hself]<;>omega
  .have:i=xs.length:=by omega
   subst this;simp -dsimp -implicitDefEqProofs;intro _;rw[yaX (Nat.le_refl _),cO (Nat.le_refl _),zad (by rw[jD];exact Nat.le_refl _)];exact⟨rfl,rfl⟩
def ywA(xs:List (List yR6))(k:Int)(h0:0<=k)(h1:k+cnt kG xs<=8000000000000000000):qB prg 93 [.c (.sl 1 (dH yb6 kG k xs)),.c (.i k)] (.c (.i (k+cnt kG xs))):=by
 refine dB ym0 ?_;simp -dsimp -implicitDefEqProofs [yeq];refine qA (ι:=Nat) (λi=>i<=xs.length) (λi=>xC [(0,.c (.sl 1 (dH yb6 kG k xs))),(1,.c (.i (k+pI kG xs i))),(5,.c (.i i))] []) (λi=>xs.length-i) 0 (by simp) (by apply aB<;>simp[jK]) ?_
 rintro i hi
 rcases zae i xs.length with hlt|hge
 .obtain⟨e,he⟩:∃e,xs[i]?=some e:=⟨_,zaa hlt⟩;have hg:=ydA (f:=yb6) (n:=kG) (k:=k) he;have hc:=kK (n:=kG) he;have hle:=kR (n:=kG) (xs:=xs) (i:=i+1);have hn:kG e=cnt nM e:=rfl;simp only[yb6]at hg;generalize hK:(k+(pI kG xs i:Int))=K at *;have hk:0<=K:=by omega
  simp -dsimp -implicitDefEqProofs [jD,fC hlt,hg];intro hlen
  repeat(refine⟨by first|exact hlt|(unfold inI;omega)|exact dQ (by omega),?_⟩)
  refine aA (yyK e (K) (by omega) (by omega)) ?_;have n0:(K+(cnt nM e:Int)<0)=False:=by simp;omega
  simp -dsimp -implicitDefEqProofs [n0,jD,fC hlt,hg]
  repeat(refine⟨by first|exact hlt|(unfold inI;omega)|exact dQ (by omega)|exact gB hlt hlen,?_⟩)
  refine⟨i+1,hlt,by omega,?_⟩;apply aB<;>simp<;>omega
 .have:i=xs.length:=by omega
  subst this;simp -dsimp -implicitDefEqProofs [jD];rw[cO (Nat.le_refl _)];intro _;rfl
@[simp] def yR2.iD(e:yR2):List C:=[.i e.Time,.i e.yR8,.b e.yRT.Up,.ot 1 (e.yRT.Rows.map jF)]
def yR2.bF(e:yR2):dO e.iD=some e.enc:=by simp[yR2.iD,dO,yY yI]
def yR2.aF(e:yR2):∀c∈e.iD,c.closed:=by
 simp only[yR2.iD,zaH,zba,or_false,forall_eq_or_imp,forall_eq];exact⟨by simp[C.closed],by simp[C.closed],by simp[C.closed],iJ yeK _ _⟩
def yz7(e:yR2)(hl:yR2.small e):nI prg 183 [.agg (e.enc.map .c)] (.agg (e.iD.map .c)):=by
 refine fF yf4 ?_;simp -dsimp -implicitDefEqProofs [ybQ];refine sD (ylg e.yRT hl) (by simp) (dP (yRT.aF _)) (by simp[fD]) ?_;simp -dsimp -implicitDefEqProofs [jA]
def yyD(xs:List yR2)(hl:ybz xs):nI prg 71 [.c (.sl 4 (xs.map yR2.enc))] (.c (.ot 4 (xs.map yR2.iD))):=by
 refine fF yeX ?_;simp -dsimp -implicitDefEqProofs [ya4];intro hlen;have hl1:=hl.1;refine⟨by omega,?_⟩;refine qA (ι:=Nat) (λk=>k<=xs.length) (λk=>xC [(0,.c (.sl 4 (xs.map yR2.enc))),(3,.own 7 4 xs.length),(4,.c (.i k))] [(7,.tr 4 0 (partly yR2.iD [.i 0,.i 0,.b false,.sl 1 []] xs k))]) (λk=>xs.length-k) 0 (by simp) (by apply aB<;>simp[mF,Obj.leO]) ?_
 rintro k hk
 rcases zae k xs.length with hlt|hge
 .obtain⟨e,he⟩:∃e,xs[k]?=some e:=⟨_,zaa hlt⟩;have hs:=fG (f:=yR2.iD) (z:=[.i 0,.i 0,.b false,.sl 1 []]) he;have hd:=qG (f:=yR2.iD) (z:=[.i 0,.i 0,.b false,.sl 1 []]) (n:=4) rfl hlt;simp only[yR2.iD]at hs;simp -dsimp -implicitDefEqProofs [he,fC hlt];intro _;refine sD (yz7 e (hl.2 e (zac he))) (by simp) (dP (yR2.aF _)) (by simp[fD]) ?_;simp -dsimp -implicitDefEqProofs [fC hlt,dG hk,jA,hd,hs];exact⟨hlt,gB hlt hlen,k+1,hlt,by omega,by apply aB<;>simp[Obj.leO]⟩
 .simp -dsimp -implicitDefEqProofs [aG hge];intro _;rw[eG hge,jA]
def sF(e:yR2):Nat:=1+1+1+cnt nB e.yRT.Rows
def iR(k:Int)(e:yR2):List C:=[.i k,.i (k+1),.b (decide ((k+1+1).tmod 3=0)),.ot 1 (dH fB nB (k+1+1+1) e.yRT.Rows)]
def yaA(k:Int)(e:yR2):List C:=[.i k,.i (k+1),.b (decide ((k+1+1).tmod 3=0)),.sl 1 (dH fBs nB (k+1+1+1) e.yRT.Rows)]
def yjF(k:Int)(e:yR2):dO (iR k e)=some (yaA k e):=by simp[iR,yaA,dO,C.shr,lM yy7]
def yuo(xs:List yR2)(k:Int)(h0:0<=k)(h1:k+cnt sF xs<=8000000000000000000):
 InF prg 89 (.c (ct 4 (xs.map yR2.iD))) (.c (ct 4 (dH iR sF k xs))) [.c (.i k)] (.c (.i (k+cnt sF xs))):=by
 rcases zas xs.length with hx|hx
 .have:xs=[]:=zai.1 hx;subst this;refine aK ydn (by simp) (by simp) rfl λhwf=>?_;simp -dsimp -implicitDefEqProofs [yah,dH,cnt];refine qA (ι:=Unit) (λ_=>True) (λ_=>xC [(0,.c (.sl 4 [])),(1,.c (.i k)),(5,.c (.i 0)),(1000000,.c (.sl 4 []))] []) (λ_=>0) () trivial (by apply aB<;>simp) ?_
  rintro _ _
  simp -dsimp -implicitDefEqProofs
 .rw[iY (by simpa using hx),iY (by rw[jD];exact hx)];refine aK ydn (by simp) (by simp) rfl λhwf=>?_;simp -dsimp -implicitDefEqProofs [yah];refine qA (ι:=Nat) (λi=>i<=xs.length) (λi=>xC [(0,.own 0 4 xs.length),(1,.c (.i (k+pI sF xs i))),(5,.c (.i i)),(1000000,.own 0 4 xs.length)] [(0,.tr 4 0 (dX iR yR2.iD sF k xs i))]) (λi=>xs.length-i) 0 (by simp) (by apply aB<;>simp[yD,jK,Obj.leO]) ?_
  rintro i hi
  rcases zae i xs.length with hlt|hge
  .obtain⟨e,he⟩:∃e,xs[i]?=some e:=⟨_,zaa hlt⟩;have hg:=yaO (f:=iR) (g:=yR2.iD) (n:=sF) (k:=k) he;have hl:=yaK (f:=iR) (g:=yR2.iD) (n:=sF) (k:=k) (xs:=xs) (i:=i);have hs:=yaL (f:=iR) (g:=yR2.iD) (n:=sF) (k:=k) he;have hc:=kK (n:=sF) he;have hle:=kR (n:=sF) (xs:=xs) (i:=i+1);have hn:sF e=1+1+1+cnt nB e.yRT.Rows:=rfl;generalize hM:dX iR yR2.iD sF k xs i=M at *;generalize hK:(k+(pI sF xs i:Int))=K at *;have hlt2:i<M.length:=by omega
   have g1:M[i]=yR2.iD e:=(zab.1 hg).2;have hself:∀a,(M.set i a)[i]?=some a:=λa=>zaX hlt2;have hgetD:∀a,(M.set i a)[i]?.getD []=a:=λa=>by rw[hself];rfl
   simp only[yR2.iD]at hg g1;have hk:0<=K:=by omega
   simp -dsimp -implicitDefEqProofs [fC hlt,hg,hl,hlt2,g1,hself,setAt];intro hlen
   repeat(refine⟨by first|exact hlt|(unfold inI;omega)|exact dQ (by omega),?_⟩)
   refine fU (k0:=4) (j:=3) (i:=(i:Int)) (r:=[.i K,.i (K+1),.b (decide ((K+1+1).tmod 3=0)),.ot 1 (e.yRT.Rows.map jF)]) (c:=.ot 1 (e.yRT.Rows.map jF)) (c':=.ot 1 (dH fB nB (K+1+1+1) e.yRT.Rows)) (ydw e.yRT.Rows (K+1+1+1) (by omega) (by omega)) (by simp) rfl rfl rfl (by first|exact hself _|simpa using hg) rfl ⟨_,by rw[jD];simp,rfl,rfl,rfl⟩ (by simp[C.sz]) ?_;simp -dsimp -implicitDefEqProofs [setAt,hself,hlt2,hl]
   repeat(refine⟨by first|exact hlt|(unfold inI;omega)|exact dQ (by omega)|exact gB hlt hlen,?_⟩)
   refine⟨i+1,hlt,by omega,?_⟩;simp only[iR]at hs;apply aB<;>simp[Obj.leO,hs,hself]<;>omega
  .have:i=xs.length:=by omega
   subst this;simp -dsimp -implicitDefEqProofs;intro _;rw[yaX (Nat.le_refl _),cO (Nat.le_refl _),zad (by rw[jD];exact Nat.le_refl _)];exact⟨rfl,rfl⟩
def ysz(xs:List yR2)(k:Int)(h0:0<=k)(h1:k+cnt sF xs<=8000000000000000000):qB prg 98 [.c (.sl 4 (dH yaA sF k xs)),.c (.i k)] (.c (.i (k+cnt sF xs))):=by
 refine dB ylC ?_;simp -dsimp -implicitDefEqProofs [ydc];refine qA (ι:=Nat) (λi=>i<=xs.length) (λi=>xC [(0,.c (.sl 4 (dH yaA sF k xs))),(1,.c (.i (k+pI sF xs i))),(5,.c (.i i))] []) (λi=>xs.length-i) 0 (by simp) (by apply aB<;>simp[jK]) ?_
 rintro i hi
 rcases zae i xs.length with hlt|hge
 .obtain⟨e,he⟩:∃e,xs[i]?=some e:=⟨_,zaa hlt⟩;have hg:=ydA (f:=yaA) (n:=sF) (k:=k) he;have hc:=kK (n:=sF) he;have hle:=kR (n:=sF) (xs:=xs) (i:=i+1);have hn:sF e=1+1+1+cnt nB e.yRT.Rows:=rfl;simp only[yaA]at hg;generalize hK:(k+(pI sF xs i:Int))=K at *;have hk:0<=K:=by omega
  simp -dsimp -implicitDefEqProofs [jD,fC hlt,hg];intro hlen
  repeat(refine⟨by first|exact hlt|(unfold inI;omega)|exact dQ (by omega),?_⟩)
  refine aA (ydB e.yRT.Rows (K+1+1+1) (by omega) (by omega)) ?_;have n3:(K+1+1+1+(cnt nB e.yRT.Rows:Int)<0)=False:=by simp;omega
  simp -dsimp -implicitDefEqProofs [n3,jD,fC hlt,hg]
  repeat(refine⟨by first|exact hlt|(unfold inI;omega)|exact dQ (by omega)|exact gB hlt hlen,?_⟩)
  refine⟨i+1,hlt,by omega,?_⟩;apply aB<;>simp<;>omega
 .have:i=xs.length:=by omega
  subst this;simp -dsimp -implicitDefEqProofs [jD];rw[cO (Nat.le_refl _)];intro _;rfl
@[simp] def yRW.iD(e:yRW):List C:=[.i e.Time,.ot 3 (e.yRV.map Reach.iD),.ow 2 (e.ySl.map Way.enc),.ot 22 (e.yRX.map yR8.iD),.ot 1 (e.yR3.map xG),.ot 2 (e.yR9.map yRT.iD),.ow 1 (e.ySd.map qC),.i e.yRZ.Base,.i e.yRZ.ySe,.ow 1 (e.yRZ.yR5.map qC),.ow 1 (e.yRZ.yR7.map qC),.ow 5 (e.Book.map ySb.enc),.ot 4 (e.yR1.map yR2.iD),.i e.Start,.i e.In,.i e.Out]
def yRW.bF(e:yRW):dO e.iD=some e.enc:=by simp[yRW.iD,dO,yY Reach.bF,yY yR8.bF,yY oV,yY yRT.bF,yY yR2.bF]
def yRW.aF(e:yRW):∀c∈e.iD,c.closed:=by
 simp only[yRW.iD,zaH,zba,or_false,forall_eq_or_imp,forall_eq];exact⟨by simp[C.closed],iJ Reach.aF _ _,by simp[C.closed],iJ yR8.aF _ _,iJ yoj _ _,iJ yRT.aF _ _,by simp[C.closed],by simp[C.closed],by simp[C.closed],by simp[C.closed],by simp[C.closed],by simp[C.closed],iJ yR2.aF _ _,by simp[C.closed],by simp[C.closed],by simp[C.closed]⟩
set_option maxRecDepth 20000 in
def yzm(e:yRW)(hl:yRW.small e):nI prg 24 [.agg (e.enc.map .c)] (.agg (e.iD.map .c)):=by
 refine fF yeD ?_;simp -dsimp -implicitDefEqProofs [ybb];refine sD (yCC e.yRV hl.1) (by simp) (iJ Reach.aF _ _) (by simp[fD]) ?_;simp -dsimp -implicitDefEqProofs [jA];refine sD (yHL e.ySl hl.2.1) (by simp) (by simp[AV.closed,AV.jI,C.closed]) (by simp[fD]) ?_;simp -dsimp -implicitDefEqProofs [jA];refine sD (yEb e.yRX hl.2.2.1) (by simp) (iJ yR8.aF _ _) (by simp[fD]) ?_;simp -dsimp -implicitDefEqProofs [jA];refine sD (yBm e.yR3 hl.2.2.2.1) (by simp) (iJ yoj _ _) (by simp[fD]) ?_;simp -dsimp -implicitDefEqProofs [jA];refine sD (ysi e.yR9 hl.2.2.2.2.1) (by simp) (iJ yRT.aF _ _) (by simp[fD]) ?_;simp -dsimp -implicitDefEqProofs [jA];refine sD (ynU e.ySd hl.2.2.2.2.2.1.1) (by simp) (by simp[AV.closed,AV.jI,C.closed]) (by simp[fD]) ?_;simp -dsimp -implicitDefEqProofs [jA];refine sD (yCp e.yRZ hl.2.2.2.2.2.2.1) (by simp) (dP (yRZ.aF _)) (by simp[fD]) ?_;simp -dsimp -implicitDefEqProofs [jA];refine sD (yBz e.Book hl.2.2.2.2.2.2.2.1.1) (by simp) (by simp[AV.closed,AV.jI,C.closed]) (by simp[fD]) ?_;simp -dsimp -implicitDefEqProofs [jA];refine sD (yyD e.yR1 hl.2.2.2.2.2.2.2.2) (by simp) (iJ yR2.aF _ _) (by simp[fD]) ?_;simp -dsimp -implicitDefEqProofs [jA]
def yHb(es:List ySc)(hl:es.length<=1048576):nI prg 309 [.c (.sl 2 (es.map ySc.enc))] (.c (.ow 2 (es.map ySc.enc))):=by
 refine fF mZ ?_;simp[iP,jA];omega
def ynW(es:List Int)(hl:es.length<=1048576):nI prg 122 [.c (.sl 1 (es.map qC))] (.c (.ow 1 (es.map qC))):=by
 refine fF yev ?_;simp[yad,jA];omega
def yFa(es:List ySf)(hl:es.length<=1048576):nI prg 211 [.c (.sl 2 (es.map ySf.enc))] (.c (.ow 2 (es.map ySf.enc))):=by
 refine fF oZ ?_;simp[eP,jA];omega
def yFI(es:List Way)(hl:es.length<=1048576):nI prg 118 [.c (.sl 2 (es.map Way.enc))] (.c (.ow 2 (es.map Way.enc))):=by
 refine fF yal ?_;simp[aT,jA];omega
def yFy(es:List ySb)(hl:es.length<=1048576):nI prg 124 [.c (.sl 5 (es.map ySb.enc))] (.c (.ow 5 (es.map ySb.enc))):=by
 refine fF fP ?_;simp[oJ,jA];omega
def ye5(e:Reach)(hl:Reach.small e):nI prg 209 [.agg (e.enc.map .c)] (.agg (e.iD.map .c)):=by
 refine fF yqn ?_;simp -dsimp -implicitDefEqProofs [ygb];refine pJ (yHb e.ySg hl.1.1) (by simp) (by simp[AV.closed,AV.jI,C.closed]) (by simp[fD]) ?_;simp -dsimp -implicitDefEqProofs [jA];refine pJ (ynW e.ySk hl.2.1) (by simp) (by simp[AV.closed,AV.jI,C.closed]) (by simp[fD]) ?_;simp -dsimp -implicitDefEqProofs [jA]
def yvL(xs:List Reach)(hl:ybv xs):nI prg 117 [.c (.sl 3 (xs.map Reach.enc))] (.c (.ot 3 (xs.map Reach.iD))):=by
 refine fF ym4 ?_;simp[ydU];intro hlen;have hl1:=hl.1;refine⟨by omega,?_⟩;intro _;refine qA (ι:=Nat) (λk=>k<=xs.length) (λk=>xC [(3,.own 8 3 k),(9,.c (.sl 3 (xs.map Reach.enc))),(10,.c (.i xs.length)),(11,.c (.i k))] [(8,.tr 3 0 ((xs.take k).map Reach.iD))]) (λk=>xs.length-k) 0 (by simp) (by apply aB<;>simp[Obj.leO]) ?_
 rintro k hk
 rcases zae k xs.length with hlt|hge
 .obtain⟨e,he⟩:∃e,xs[k]?=some e:=⟨_,zaa hlt⟩;have hs:xs.take (k+1)=xs.take k++[e]:=by rw[zat,he];rfl
  have he2:=hl.2 e (zac he);have g1:=(zab.1 he).2;simp[he,g1,hlt,fC hlt];refine sD (ye5 e he2) (by simp) (dP (Reach.aF e)) (by simp[fD]) ?_;simp[jA,Nat.min_eq_left hk,iW];refine⟨by omega,gB hlt hlen,k+1,hlt,by omega,?_⟩;have hs2:(xs.map Reach.iD).take (k+1)=(xs.map Reach.iD).take k++[Reach.iD e]:=by rw[<-zbe,<-zbe,hs,zaE];rfl
  apply aB<;>simp[Obj.leO,hs2]
 .have:k=xs.length:=by omega
  subst this;simp[jA]
  try simp
def ybj(xs:List yRT)(hl:aJ xs):nI prg 121 [.c (.sl 2 (xs.map yRT.enc))] (.c (.ot 2 (xs.map yRT.iD))):=by
 refine fF ynC ?_;simp[yeY];intro hlen;have hl1:=hl.1;refine ydE (k0:=2) 3 2 (by simp) (by simp) (by decide) ?_;refine qA (ι:=Nat) (λk=>k<=xs.length) (λk=>xC [(3,.own 3 2 k),(6,.c (.sl 2 (xs.map yRT.enc))),(7,.c (.i xs.length)),(8,.c (.i k))] [(3,.tr 2 0 ((xs.take k).map yRT.iD))]) (λk=>xs.length-k) 0 (by simp) (by apply aB<;>simp[Obj.leO]) ?_
 rintro k hk
 rcases zae k xs.length with hlt|hge
 .obtain⟨e,he⟩:∃e,xs[k]?=some e:=⟨_,zaa hlt⟩;have hs:xs.take (k+1)=xs.take k++[e]:=by rw[zat,he];rfl
  have he2:=hl.2 e (zac he);have g1:=(zab.1 he).2;simp[he,g1,hlt,fC hlt];refine sD (yaU e he2) (by simp) (dP (yRT.aF e)) (by simp[fD]) ?_;simp[jA,Nat.min_eq_left hk,iW];refine⟨by omega,gB hlt hlen,k+1,hlt,by omega,?_⟩;have hs2:(xs.map yRT.iD).take (k+1)=(xs.map yRT.iD).take k++[yRT.iD e]:=by rw[<-zbe,<-zbe,hs,zaE];rfl
  apply aB<;>simp[Obj.leO,hs2]
 .have:k=xs.length:=by omega
  subst this;simp[jA]
  try simp
def yzp(xs:List yR4)(hl:oM xs):nI prg 212 [.c (.sl 4 (xs.map yR4.enc))] (.c (.ot 4 (xs.map yR4.iD))):=by
 refine fF ype ?_;simp -dsimp -implicitDefEqProofs [yfY];intro hlen;have hl1:=hl.1;refine ydE (k0:=4) 3 4 (by simp) (by simp) (by decide) ?_;refine qA (ι:=Nat) (λk=>k<=xs.length) (λk=>xC [(3,.own 3 4 k),(6,.c (.sl 4 (xs.map yR4.enc))),(7,.c (.i xs.length)),(8,.c (.i k))] [(3,.tr 4 0 ((xs.take k).map yR4.iD))]) (λk=>xs.length-k) 0 (by simp) (by apply aB<;>simp[Obj.leO]) ?_
 rintro k hk
 rcases zae k xs.length with hlt|hge
 .obtain⟨e,he⟩:∃e,xs[k]?=some e:=⟨_,zaa hlt⟩;have hs:xs.take (k+1)=xs.take k++[e]:=by rw[zat,he];rfl
  have he2:=hl.2 e (zac he);have g1:=(zab.1 he).2;simp -dsimp -implicitDefEqProofs [he,g1,hlt,fC hlt];refine pJ (yaU e.yRT he2) (by simp) (dP (yRT.aF e.yRT)) (by simp[fD]) ?_;simp -dsimp -implicitDefEqProofs [jA,Nat.min_eq_left hk,iW];refine⟨by omega,gB hlt hlen,k+1,hlt,by omega,?_⟩;have hs2:(xs.map yR4.iD).take (k+1)=(xs.map yR4.iD).take k++[yR4.iD e]:=by rw[<-zbe,<-zbe,hs,zaE];rfl
  apply aB<;>simp[Obj.leO,hs2]
 .have:k=xs.length:=by omega
  subst this;simp -dsimp -implicitDefEqProofs [jA]
  try simp
def yyd(xs:List yR6)(hl:ydp xs):nI prg 120 [.c (.sl 3 (xs.map yR6.enc))] (.c (.ot 3 (xs.map yR6.iD))):=by
 refine fF yoA ?_;simp -dsimp -implicitDefEqProofs [yfq];intro hlen;have hl1:=hl.1;refine ydE (k0:=3) 3 3 (by simp) (by simp) (by decide) ?_;refine qA (ι:=Nat) (λk=>k<=xs.length) (λk=>xC [(3,.own 3 3 k),(6,.c (.sl 3 (xs.map yR6.enc))),(7,.c (.i xs.length)),(8,.c (.i k))] [(3,.tr 3 0 ((xs.take k).map yR6.iD))]) (λk=>xs.length-k) 0 (by simp) (by apply aB<;>simp[Obj.leO]) ?_
 rintro k hk
 rcases zae k xs.length with hlt|hge
 .obtain⟨e,he⟩:∃e,xs[k]?=some e:=⟨_,zaa hlt⟩;have hs:xs.take (k+1)=xs.take k++[e]:=by rw[zat,he];rfl
  have he2:=hl.2 e (zac he);have g1:=(zab.1 he).2;simp -dsimp -implicitDefEqProofs [he,g1,hlt,fC hlt];refine pJ (yaU e.yRT he2) (by simp) (dP (yRT.aF e.yRT)) (by simp[fD]) ?_;simp -dsimp -implicitDefEqProofs [jA,Nat.min_eq_left hk,iW];refine⟨by omega,gB hlt hlen,k+1,hlt,by omega,?_⟩;have hs2:(xs.map yR6.iD).take (k+1)=(xs.map yR6.iD).take k++[yR6.iD e]:=by rw[<-zbe,<-zbe,hs,zaE];rfl
  apply aB<;>simp[Obj.leO,hs2]
 .have:k=xs.length:=by omega
  subst this;simp -dsimp -implicitDefEqProofs [jA]
  try simp
def ysC(e:yR0)(hl:yR0.small e):nI prg 210 [.agg (e.enc.map .c)] (.agg (e.iD.map .c)):=by
 refine fF yrk ?_;simp[yiw];refine sD (ybj e.yRY hl) (by simp) (iJ yRT.aF _ _) (by simp[fD]) ?_;simp[jA]
def yy2(e:yRZ)(hl:yRZ.small e):nI prg 123 [.agg (e.enc.map .c)] (.agg (e.iD.map .c)):=by
 refine fF yn6 ?_;simp[yex];refine sD (ynW e.yR5 hl.1) (by simp) (by simp[AV.closed,AV.jI,C.closed]) (by simp[fD]) ?_;simp[jA];refine sD (ynW e.yR7 hl.2) (by simp) (by simp[AV.closed,AV.jI,C.closed]) (by simp[fD]) ?_;simp[jA]
def yAG(xs:List yR8)(hl:ycw xs):nI prg 119 [.c (.sl 22 (xs.map yR8.enc))] (.c (.ot 22 (xs.map yR8.iD))):=by
 refine fF yp9 ?_;simp[yf9];intro hlen;have hl1:=hl.1;refine ydE (k0:=22) 3 22 (by simp) (by simp) (by decide) ?_;refine qA (ι:=Nat) (λk=>k<=xs.length) (λk=>xC [(3,.own 3 22 k),(6,.c (.sl 22 (xs.map yR8.enc))),(7,.c (.i xs.length)),(8,.c (.i k))] [(3,.tr 22 0 ((xs.take k).map yR8.iD))]) (λk=>xs.length-k) 0 (by simp) (by apply aB<;>simp[Obj.leO]) ?_
 rintro k hk
 rcases zae k xs.length with hlt|hge
 .obtain⟨e,he⟩:∃e,xs[k]?=some e:=⟨_,zaa hlt⟩;have hs:xs.take (k+1)=xs.take k++[e]:=by rw[zat,he];rfl
  have he2:=hl.2 e (zac he);have g1:=(zab.1 he).2;simp[he,g1,hlt,fC hlt];refine sD (ysC e.yR0 he2.1) (by simp) (dP (yR0.aF _)) (by simp[fD]) ?_;simp[jA];refine sD (yFa e.Pauses he2.2.1.1) (by simp) (by simp[AV.closed,AV.jI,C.closed]) (by simp[fD]) ?_;simp[jA];refine sD (yzp e.Calls he2.2.2) (by simp) (iJ yR4.aF _ _) (by simp[fD]) ?_;simp[jA,Nat.min_eq_left hk];refine⟨by omega,gB hlt hlen,k+1,hlt,by omega,?_⟩;have hs2:(xs.map yR8.iD).take (k+1)=(xs.map yR8.iD).take k++[yR8.iD e]:=by rw[<-zbe,<-zbe,hs,zaE];rfl
  apply aB<;>simp[Obj.leO,hs2]
 .have:k=xs.length:=by omega
  subst this;simp[jA]
  try simp
set_option maxRecDepth 20000 in
def yuq(x:yRW)(hl:x.small):nI prg 40 [.agg (x.enc.map .c)] (.agg (x.iD.map .c)):=by
 obtain⟨s1,s2,s3,s4,s5,s6,s7,s8,s9⟩:=hl;have s41:=s4.1;have s91:=s9.1;refine fF ylx ?_;simp -dsimp -implicitDefEqProofs [ydm];refine sD (yvL x.yRV s1) (by simp) (iJ Reach.aF _ _) (by simp[fD]) ?_;simp -dsimp -implicitDefEqProofs [jA];refine sD (yFI x.ySl s2.1) (by simp) (by simp[AV.closed,AV.jI,C.closed]) (by simp[fD]) ?_;simp -dsimp -implicitDefEqProofs [jA];refine sD (yAG x.yRX s3) (by simp) (iJ yR8.aF _ _) (by simp[fD]) ?_;simp -dsimp -implicitDefEqProofs [jA];intro hlen;refine⟨by omega,yoL ?_⟩;simp -dsimp -implicitDefEqProofs;intro _;refine qA (ι:=Nat) (λk=>k<=x.yR3.length) (λk=>xC [(1,.box 1 0),(2,.box 2 0),(3,.own 24 1 x.yR3.length),(26,.c (.sl 1 (x.yR3.map nD))),(27,.c (.i x.yR3.length)),(28,.c (.i k))] [(1,.box [.c (.i x.Time),.own 11 3 x.yRV.length,.own 15 2 x.ySl.length,.own 19 22 x.yRX.length,.c (.sl 1 (x.yR3.map nD)),.c (.sl 2 (x.yR9.map yRT.enc)),.c (.sl 1 (x.ySd.map qC)),.c (.i x.yRZ.Base),.c (.i x.yRZ.ySe),.c (.sl 1 (x.yRZ.yR5.map qC)),.c (.sl 1 (x.yRZ.yR7.map qC)),.c (.sl 5 (x.Book.map ySb.enc)),.c (.sl 4 (x.yR1.map yR2.enc)),.c (.i x.Start),.c (.i x.In),.c (.i x.Out)]),(2,.box [.c (.i 0),.nil 3,.nil 2,.nil 22,.nil 1,.nil 2,.nil 1,.c (.i 0),.c (.i 0),.nil 1,.nil 1,.nil 5,.nil 4,.c (.i 0),.c (.i 0),.c (.i 0)]),(11,.tr 3 0 (x.yRV.map Reach.iD)),(15,.row 2 (x.ySl.map Way.enc)),(19,.tr 22 0 (x.yRX.map yR8.iD)),(24,.tr 1 0 (partly xG [.sl 3 []] x.yR3 k))]) (λk=>x.yR3.length-k) 0 (by simp) (by apply aB<;>simp[mF,Obj.leO]) ?_
 rintro k hk
 rcases zae k x.yR3.length with hlt|hge
 .obtain⟨e,he⟩:∃e,x.yR3[k]?=some e:=⟨_,zaa hlt⟩;have hs:=fG (f:=xG) (z:=[.sl 3 []]) he
  have hd:((partly xG [.sl 3 []] x.yR3 k)[k]?.getD []).set 0 (.ot 3 (e.map yR6.iD))=xG e:=by
   have:=tX (f:=xG) (z:=[.sl 3 []]) (n:=1) rfl (λ_=>rfl) hlt;obtain⟨y,hy⟩:=zbg.1 this;rw[hy];rfl
  simp -dsimp -implicitDefEqProofs [he,fC hlt];refine sD (yyd e (s4.2 e (zac he))) (by simp) (iJ yR6.aF _ _) (by simp[fD]) ?_;simp -dsimp -implicitDefEqProofs [fC hlt,dG hk,jA,setAt,hd,hs];exact⟨hlt,gB hlt hlen,k+1,hlt,by omega,by apply aB<;>simp[Obj.leO]⟩
 have hke:k=x.yR3.length:=by omega
 subst hke;simp -dsimp -implicitDefEqProofs [eG (Nat.le_refl _),jA];refine sD (ybj x.yR9 s5) (by simp) (iJ yRT.aF _ _) (by simp[fD]) ?_;simp -dsimp -implicitDefEqProofs [jA];refine sD (ynW x.ySd s6.1) (by simp) (by simp[AV.closed,AV.jI,C.closed]) (by simp[fD]) ?_;simp -dsimp -implicitDefEqProofs [jA];refine sD (yy2 x.yRZ s7) (by simp) (dP (yRZ.aF _)) (by simp[fD]) ?_;simp -dsimp -implicitDefEqProofs [jA];refine sD (yFy x.Book s8.1) (by simp) (by simp[AV.closed,AV.jI,C.closed]) (by simp[fD]) ?_;simp -dsimp -implicitDefEqProofs [jA];intro hlen2;refine ydE (k0:=4) 6 4 (by simp) (by simp) (by decide) ?_;refine qA (ι:=Nat) (λk=>k<=x.yR1.length) (λk=>xC [(1,.box 1 0),(2,.box 2 0),(6,.own 6 4 k),(58,.c (.sl 4 (x.yR1.map yR2.enc))),(59,.c (.i x.yR1.length)),(60,.c (.i k))] [(1,.box [.c (.i x.Time),.own 11 3 x.yRV.length,.own 15 2 x.ySl.length,.own 19 22 x.yRX.length,.own 24 1 x.yR3.length,.own 43 2 x.yR9.length,.own 47 1 x.ySd.length,.c (.i x.yRZ.Base),.c (.i x.yRZ.ySe),.own 30051 1 x.yRZ.yR5.length,.own 40051 1 x.yRZ.yR7.length,.own 55 5 x.Book.length,.c (.sl 4 (x.yR1.map yR2.enc)),.c (.i x.Start),.c (.i x.In),.c (.i x.Out)]),(2,.box [.c (.i 0),.nil 3,.nil 2,.nil 22,.nil 1,.nil 2,.nil 1,.c (.i 0),.c (.i 0),.nil 1,.nil 1,.nil 5,.nil 4,.c (.i 0),.c (.i 0),.c (.i 0)]),(11,.tr 3 0 (x.yRV.map Reach.iD)),(15,.row 2 (x.ySl.map Way.enc)),(19,.tr 22 0 (x.yRX.map yR8.iD)),(24,.tr 1 0 (x.yR3.map xG)),(43,.tr 2 0 (x.yR9.map yRT.iD)),(47,.row 1 (x.ySd.map qC)),(30051,.row 1 (x.yRZ.yR5.map qC)),(40051,.row 1 (x.yRZ.yR7.map qC)),(55,.row 5 (x.Book.map ySb.enc)),(6,.tr 4 0 ((x.yR1.take k).map yR2.iD))]) (λk=>x.yR1.length-k) 0 (by simp) (by apply aB<;>simp[Obj.leO]) ?_
 rintro k hk2
 rcases zae k x.yR1.length with hlt|hge2
 .obtain⟨e,he⟩:∃e,x.yR1[k]?=some e:=⟨_,zaa hlt⟩;have hs:x.yR1.take (k+1)=x.yR1.take k++[e]:=by rw[zat,he];rfl
  have he2:=s9.2 e (zac he);have g1:=(zab.1 he).2;simp -dsimp -implicitDefEqProofs [he,g1,hlt,fC hlt];refine pJ (yaU e.yRT he2) (by simp) (dP (yRT.aF e.yRT)) (by simp[fD]) ?_;simp -dsimp -implicitDefEqProofs [jA,Nat.min_eq_left hk2,iW];refine⟨by omega,gB hlt hlen2,k+1,hlt,by omega,?_⟩;have hs2:(x.yR1.map yR2.iD).take (k+1)=(x.yR1.map yR2.iD).take k++[yR2.iD e]:=by rw[<-zbe,<-zbe,hs,zaE];rfl
  apply aB<;>simp[Obj.leO,hs2]
 have hke2:k=x.yR1.length:=by omega
 subst hke2;simp -dsimp -implicitDefEqProofs [jA]
def ypa(e:Reach)(hl:Reach.small e):nI prg 108 [.agg (e.enc.map .c)] (.agg (e.iD.map .c)):=by
 have h1:=hl.1.1;have h2:=hl.2.1;refine fF ysq ?_;simp -dsimp -implicitDefEqProofs [yjr,jA];exact⟨by omega,by omega⟩
def ypc(e:Reach)(hl:Reach.small e):qB prg 108 [.agg (e.enc.map .c)] (.agg (e.enc.map .c)):=(ypa e hl).pure (by simp[AV.shr,AV.yoE,dO,C.shr])
def yFb(e:yR6)(hl:yR6.small e):qB prg 110 [.agg (e.enc.map .c)] (.agg (e.enc.map .c)):=by
 refine dB yub ?_;simp -dsimp -implicitDefEqProofs [yjP];refine bI (ybP e.yRT hl) ?_;simp -dsimp -implicitDefEqProofs
@[simp] def lkI(e:yR0):List C:=[.i e.Length,.i e.Width,.i e.ySi,.i e.ySj,.i e.Base,.i e.Area,.i e.ySs,.i e.ySn,.i e.Gate,.ow 2 (e.yRY.map yRT.enc)]
set_option maxRecDepth 20000 in
def yxj(e:yR0)(hl:yR0.small e):nI prg 203 [.agg (e.enc.map .c)] (.agg ((lkI e).map .c)):=by
 have hl1:=hl.1;have hsm:=hl.2;refine fF ysx ?_;simp -dsimp -implicitDefEqProofs [yji];refine qA (ι:=Nat) (λk=>k<=e.yRY.length) (λk=>xC [(1,.box 1 0),(2,.box 2 0),(3,.own 5 2 k),(4,.c (.i k))] [(1,.box [.c (.i e.Length),.c (.i e.Width),.c (.i e.ySi),.c (.i e.ySj),.c (.i e.Base),.c (.i e.Area),.c (.i e.ySs),.c (.i e.ySn),.c (.i e.Gate),.c (.sl 2 (e.yRY.map yRT.enc))]),(2,.box [.c (.i 0),.c (.i 0),.c (.i 0),.c (.i 0),.c (.i 0),.c (.i 0),.c (.i 0),.c (.i 0),.c (.i 0),.nil 2]),(5,.row 2 ((e.yRY.take k).map yRT.enc))]) (λk=>e.yRY.length-k) 0 (by simp) (by apply aB<;>simp[Obj.leO]) ?_
 rintro k hk
 rcases zae k e.yRY.length with klt|kge
 .obtain⟨e1,he⟩:∃e1,e.yRY[k]?=some e1:=⟨_,zaa klt⟩;have he2:=hsm e1 (zac he);have g1:=(zab.1 he).2;have hs2:(e.yRY.map yRT.enc).take (k+1)=(e.yRY.map yRT.enc).take k++[yRT.enc e1]:=by rw[zat,zaA,he];rfl
  simp -dsimp -implicitDefEqProofs [he,g1,klt,fC klt];intro hlen;refine dD (ybP e1 he2) ?_;simp -dsimp -implicitDefEqProofs [he,g1,klt,fC klt,jA,Nat.min_eq_left hk];refine⟨by omega,gB klt hlen,k+1,klt,by omega,?_⟩;apply aB<;>simp[Obj.leO,hs2]
 have ek:k=e.yRY.length:=by omega
 subst ek;simp -dsimp -implicitDefEqProofs [jA]
def yb7(e:yR0)(hl:yR0.small e):qB prg 203 [.agg (e.enc.map .c)] (.agg (e.enc.map .c)):=(yxj e hl).pure (by simp[AV.shr,AV.yoE,dO,C.shr])
def rO(r:Reach):Int:=if xE r then 1000000000-sZ r else 0
def ybC(r:Reach)(a:Int):Bool:=xE r&&decide (0<=a)&&decide (a<=rO r)
def dU(r:Reach)(a:Int):Reach:=
 if ybC r a then(if r.ySk.length=0 then⟨r.ySg,r.ySh+a,r.ySk⟩else⟨r.ySg,r.ySh,r.ySk.set (r.ySk.length-1) (r.ySk.getD (r.ySk.length-1) 0+a)⟩)else r
def ys2(r:Reach):0<=rO r/\rO r<=1000000000:=by
 unfold rO;split
 .rename_i h;have:=(yF h).rng;omega
 .omega
def yo3(r:Reach):qB prg 228 [.agg (r.enc.map .c)] (.c (.i (rO r))):=by
 refine dB ytk ?_;simp -dsimp -implicitDefEqProofs [yjx];refine aA (oL r) ?_;cases h:xE r with
 |false=>simp -dsimp -implicitDefEqProofs;simp[rO,h]
 |true=>
 have f:=(yF h).rng;have ht:ye4 r=sZ r:=by simp[ye4,h]
 simp -dsimp -implicitDefEqProofs;refine aA (yn0 r) ?_;simp -dsimp -implicitDefEqProofs [ht];refine⟨by unfold inI;omega,?_⟩;simp[rO,h]
def ynR(r:Reach):qB prg 261 [.agg (r.enc.map .c)] (.c (.i (rO r))):=by
 refine dB yte ?_;simp -dsimp -implicitDefEqProofs [yj8];refine aA (qN r) ?_;cases h:xE r with
 |false=>simp -dsimp -implicitDefEqProofs;simp[rO,h]
 |true=>
 have f:=yF h;simp -dsimp -implicitDefEqProofs;refine aA (yuT r f.vol f.len f.amt) ?_;simp -dsimp -implicitDefEqProofs;have f1:=f.rng;refine⟨by unfold inI;omega,?_⟩;simp[rO,h]
def yAl(r:Reach)(a:Int)(hl:r.small):nI prg 138 [.agg (r.enc.map .c),.c (.i a)] (.agg ((dU r a).iD.map .c)):=by
 refine fF yvx ?_;simp -dsimp -implicitDefEqProofs [ylZ];refine sD (ye5 r hl) (by simp) (dP (Reach.aF r)) (by simp[fD]) ?_;simp -dsimp -implicitDefEqProofs [jA];refine aA (oL r) ?_;cases h:xE r with
 |false=>simp -dsimp -implicitDefEqProofs [jA];simp[dU,ybC,h]
 |true=>
 have f:=yF h;have f1:=f.rng;have hv:=aC.1 (show inRange r.ySh 0 1000000000=true from f.vol);have hsp:=ys2 r;have hlen12:=f.len
 have hno:¬(0<=a/\a<=rO r)->dU r a=r:=λhn=>by
  have:ybC r a=false:=by
   simp only[ybC,h,zcv,zbX,decide_eq_false_iff_not];omega
  simp[dU,this]
 have hyes:0<=a->a<=rO r->ybC r a=true:=λh1 h2=>by simp[ybC,h,h1,h2]
 simp -dsimp -implicitDefEqProofs;refine⟨λh0=>?_,λh0=>?_⟩
 rotate_left
 .rw[hno (by omega)];simp[jA]
 refine aA (yo3 r) ?_;simp -dsimp -implicitDefEqProofs;refine⟨λh1=>?_,λh1=>?_⟩
 .rw[hno (by omega)];simp[jA]
 have hc:=hyes h0 (by omega);intro _;refine⟨λhp=>?_,λhp=>?_⟩
 .have e:dU r a=⟨r.ySg,r.ySh+a,r.ySk⟩:=by simp[dU,hc,hp]
  rw[e];refine⟨by unfold inI;omega,?_⟩;simp[jA]
 .have hpl:0<r.ySk.length:=zbv.2 hp;obtain⟨v,hv2⟩:∃v,r.ySk[r.ySk.length-1]?=some v:=⟨_,zaa (by omega)⟩;have hva:=aC.1 (show inRange v 0 1000000000=true from f.amt v (zac hv2));have hg:r.ySk.getD (r.ySk.length-1) 0=v:=by rw[zak,hv2];rfl
  have e:dU r a=⟨r.ySg,r.ySh,r.ySk.set (r.ySk.length-1) (v+a)⟩:=by
   have:¬r.ySk.length=0:=by omega
   simp only[dU,hc,if_true,if_neg this,hg]
  rw[e];intro _;refine⟨by unfold inI;omega,by omega,by omega,by omega,?_⟩;simp -dsimp -implicitDefEqProofs [hv2];refine⟨by unfold inI;omega,by omega,by omega,by omega,jA.symm,?_⟩;exact(zad (by simp)).symm
def Reach.yoT(r:Reach):(AV.agg (r.iD.map .c)).shr (.agg (r.enc.map .c)):=by simp[AV.shr,AV.yoE,dO,C.shr]
def yyV(r:Reach)(a:Int)(hl:r.small):qB prg 138 [.agg (r.enc.map .c),.c (.i a)] (.agg ((dU r a).enc.map .c)):=(yAl r a hl).pure (Reach.yoT _)
def yAK(r:Reach)(a:Int)(hl:r.small):qB prg 153 [.agg (r.enc.map .c),.c (.i a)] (.agg ((dU r a).enc.map .c)):=by
 refine nI.pure (res:=.agg ((dU r a).iD.map .c)) ?_ (Reach.yoT _);refine fF ywR ?_;simp -dsimp -implicitDefEqProofs [ymF];refine sD (ypa r hl) (by simp) (dP (Reach.aF r)) (by simp[fD]) ?_;simp -dsimp -implicitDefEqProofs [jA];refine aA (qN r) ?_;cases h:xE r with
 |false=>simp -dsimp -implicitDefEqProofs [jA];simp[dU,ybC,h]
 |true=>
 have f:=yF h;have f1:=f.rng;have hv:=aC.1 (show inRange r.ySh 0 1000000000=true from f.vol);have hsp:=ys2 r;have hlen12:=f.len
 have hno:¬(0<=a/\a<=rO r)->dU r a=r:=λhn=>by
  have:ybC r a=false:=by
   simp only[ybC,h,zcv,zbX,decide_eq_false_iff_not];omega
  simp[dU,this]
 have hyes:0<=a->a<=rO r->ybC r a=true:=λh1 h2=>by simp[ybC,h,h1,h2]
 simp -dsimp -implicitDefEqProofs;refine aA (ynR r) ?_;simp -dsimp -implicitDefEqProofs;refine aA (bC a 0 (rO r)) ?_;cases hin:inRange a 0 (rO r)with
 |false=>
  have:¬(0<=a/\a<=rO r):=λh=>by rw[aC.2 h]at hin;cases hin
  rw[hno this];simp -dsimp -implicitDefEqProofs [jA]
 |true=>
 have hr:=aC.1 hin;have hc:=hyes hr.1 hr.2;simp -dsimp -implicitDefEqProofs;intro _;refine⟨λhp=>?_,λhp=>?_⟩
 .have e:dU r a=⟨r.ySg,r.ySh+a,r.ySk⟩:=by simp[dU,hc,hp]
  rw[e];refine⟨by unfold inI;omega,?_⟩;simp[jA]
 .have hpl:0<r.ySk.length:=zbv.2 hp;obtain⟨v,hv2⟩:∃v,r.ySk[r.ySk.length-1]?=some v:=⟨_,zaa (by omega)⟩;have hva:=aC.1 (show inRange v 0 1000000000=true from f.amt v (zac hv2));have hg:r.ySk.getD (r.ySk.length-1) 0=v:=by rw[zak,hv2];rfl
  have e:dU r a=⟨r.ySg,r.ySh,r.ySk.set (r.ySk.length-1) (v+a)⟩:=by
   have:¬r.ySk.length=0:=by omega
   simp only[dU,hc,if_true,if_neg this,hg]
  rw[e];intro _;refine⟨by unfold inI;omega,λ_=>⟨by unfold inI;omega,by omega,by omega,by omega,?_⟩⟩;simp -dsimp -implicitDefEqProofs [hv2];refine⟨by unfold inI;omega,by omega,by omega,by omega,jA.symm,?_⟩;exact(zad (by simp)).symm
end
end Go.Proofs.YtekgilpcgbbfcaaGreat
