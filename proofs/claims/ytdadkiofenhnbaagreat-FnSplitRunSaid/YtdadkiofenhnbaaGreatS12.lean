/- What functions answer, in plain Lean. -/
import Derived.Test.YtdadkiofenhnbaaGreatS11
set_option linter.all false
set_option maxRecDepth 100000
set_option maxHeartbeats 4000000
namespace Go.Proofs.YtdadkiofenhnbaaGreat
open Go.RowKit
noncomputable section
def ys1(x:yRW)(k:Nat)(hs:x.small)(F:ySq x k):qB prg 185 [.agg (x.enc.map .c),.c (.i k)] (.agg ((qM x k).enc.map .c)):=by
 have kw:=F.kw;have kr:=F.kr;have sw:=F.sw;have rl:=F.rl;have hw:=yi4 F.kw;have ha:=ye8 (rs:=x.yRV) (k:=k) (by omega);have hb:=ye8 kr;have hA:=yGg x k _ _ _ sw hw ha hb (yBO F.wok) hs.1.1;have hN:=yjM (able (dR x.yRV k) (dR x.yRV (k+1)) (dW x.yRX k)) (dW x.yRX k).Turn x.Time (yhK sw);have hN2:ybZ x k=mW (able (dR x.yRV k) (dR x.yRV (k+1)) (dW x.yRX k)) (dW x.yRX k).Turn x.Time:=rfl;rw[<-hN2]at hN;generalize able (dR x.yRV k) (dR x.yRV (k+1)) (dW x.yRX k)=A at *;unfold qM;clear hN2;generalize ybZ x k=N at *;obtain⟨g,hg⟩:∃g,yan (dW x.yRX k) N=g:=⟨_,rfl⟩;rw[hg];have hg12:g=1\/g=2:=by rw[<-hg];unfold yan;split<;>omega
 have hsl:lI k g<x.yRV.length:=by unfold lI;split<;>omega
 have hSR:=yd4 k g (by omega);have hr:=ye8 hsl;have hsr:=hs.1.2 _ (zac hr);have hO:=yvt (dW x.yRX k).yR0 (dR x.yRV k) (dR x.yRV (k+1)) g sw.1;have hCh:=jQ (dW x.yRX k).yR0 sw.1;have hLv:=qL (dR x.yRV (lI k g));have hFi:=yvH (dW x.yRX k).yR0 (dR x.yRV (lI k g)) sw.1 hsr;have hDr:=yty (dW x.yRX k).yR0 (dR x.yRV (lI k g)) sw.1 hsr;have hWT:yls x k g=if(opening x k g).2 then rD x k (rH (dW x.yRX k) (opening x k g).1)else qJ (rD x k (rH (dW x.yRX k) (jT (dW x.yRX k).yR0 (dR x.yRV (lI k g))).1)) (lI k g) (jT (dW x.yRX k).yR0 (dR x.yRV (lI k g))).2:=rfl
 have hO2:tK (dW x.yRX k).yR0 (dR x.yRV k) (dR x.yRV (k+1)) g=opening x k g:=rfl;have hLe:jT (dW x.yRX k).yR0 (dR x.yRV (lI k g))=if bG (dW x.yRX k).yR0<kD (dR x.yRV (lI k g))then mM (dW x.yRX k).yR0 (dR x.yRV (lI k g))else rJ (dW x.yRX k).yR0 (dR x.yRV (lI k g)):=rfl
 rw[hO2]at hO;have hWW:=λl=>ycd x k (rH (dW x.yRX k) l) hs.2.2.1.1 kw;have hWR:=λl r=>yuW (rD x k (rH (dW x.yRX k) l)) (lI k g) r hs.1.1 hsl;generalize yls x k g=Z at *;generalize opening x k g=O at *;generalize jT (dW x.yRX k).yR0 (dR x.yRV (lI k g))=L at *;generalize mM (dW x.yRX k).yR0 (dR x.yRV (lI k g))=Fi at *;generalize rJ (dW x.yRX k).yR0 (dR x.yRV (lI k g))=Dr at *;generalize lI k g=sd at *;generalize bG (dW x.yRX k).yR0=cl at *;generalize kD (dR x.yRV sd)=lv at *;generalize dR x.yRV sd=rs at *;generalize dR x.yRV k=ra at *;generalize dR x.yRV (k+1)=rb at *;generalize dW x.yRX k=w at *;have gw:=(zaa.1 hw).2;have ga:=(zaa.1 ha).2;have gb:=(zaa.1 hb).2;have gr:=(zaa.1 hr).2;have ka:k<x.yRV.length:=by omega
 refine dB ypJ ?_;simp -dsimp -implicitDefEqProofs [ygM,hw,gw,kw,fC kw];refine yYt hA (goQ_ ?_);refine yYs hN ?_;obtain⟨n1,n2⟩:=N
 have hcase:(w.yR0.yRY=[]/\n2=false)\/(∃u,(w.yR0.yRY=[]/\n2=true/\n1= !u)/\g=if u then 1 else 2)\/(∃u t,(w.yR0.yRY[0]?=some t/\t.Up=u)/\g=if u then 1 else 2):=by
  by_cases hI:w.yR0.yRY=[]
  .cases h2:n2 with
   |false=>exact .inl ⟨hI,rfl⟩
   |true=>exact .inr (.inl ⟨!n1,⟨hI,rfl,by simp⟩,by rw[<-hg];simp[yan,yoI,hI]⟩)
  .obtain⟨t,ht⟩:∃t,w.yR0.yRY[0]?=some t:=⟨_,zab (zbf.2 hI)⟩;exact .inr (.inr ⟨t.Up,t,⟨ht,rfl⟩,by rw[<-hg];simp[yan,yoI,hI,zaf,ht]⟩)
 rcases hcase with⟨hI,h2⟩|⟨u,⟨hI,h2,h1⟩,hgu⟩|⟨u,t,⟨ht,hu⟩,hgu⟩
 .have hre:rests w (n1,n2)=true:=by simp[rests,hI,h2]
  subst h2;exact yafJ hI hre
 .have hre:∀b,rests w (b,true)=false:=λb=>by simp[rests,hI]
  have i1:(0<w.yR0.yRY.length)=False:=eq_false (by rw[hI];simp);have i2:(w.yR0.yRY=[])=True:=eq_true hI;subst h2 h1;cases u
  all_goals
   simp only[if_true,zbi,if_false]at hgu;subst hgu;simp -dsimp -implicitDefEqProofs [i1,i2,hre,ha,ga,ka,hb,gb,kr]
   refineλ_=>⟨by unfold inI;omega,by omega,by omega,?_⟩
   refine yYo hO ?_;cases hO2:O.2 with
   |true=>
    rw[hO2,if_pos rfl]at hWT;subst hWT;have hW1:=hWW O.1;generalize rD x k (rH w O.1)=R at *;refine goQ_ ?_;refine yYp hW1 ?_;exact yafA hre
   | false=>
    rw[hO2,if_neg zaH]at hWT;subst hWT;have hW1:=hWW L.1;have hW2:=hWR L.1 L.2;generalize qJ (rD x k (rH w L.1)) sd L.2=R2 at *;generalize rD x k (rH w L.1)=R at *;refine goQ_ ?_;refine yYq hSR (yaeT hr gr hsl ?_);refine yYs hCh (goQ_ ?_);refine yYs hLv ?_
    by_cases hlt:cl<lv
    .rw[if_pos hlt]at hLe;subst hLe;refine yafw hlt ?_;refine yYp hFi (goQ_ ?_);refine yYo hW1 (goQ_ ?_);refine yYo hW2 ?_;exact yafA hre
    .rw[if_neg hlt]at hLe;subst hLe;refine yafw hlt ?_;refine yYp hDr (goQ_ ?_);refine yYo hW1 (goQ_ ?_);refine yYo hW2 ?_;exact yafA hre
 .have hre:rests w (n1,n2)=false:=by
   have:w.yR0.yRY≠[]:=λh=>by rw[h]at ht;cases ht
   simp[rests,this]
  have gt:=(zaa.1 ht).2;have i1:(0<w.yR0.yRY.length)=True:=eq_true (zaa.1 ht).1;have i2:(w.yR0.yRY=[])=False:=eq_false λh=>by rw[h]at ht;cases ht
  cases u
  all_goals
   simp only[if_true,zbi,if_false]at hgu;subst hgu;simp -dsimp -implicitDefEqProofs [i1,i2,ht,gt,hu,hre,ha,ga,ka,hb,gb,kr]
   refineλ_=>⟨by unfold inI;omega,by omega,by omega,?_⟩
   refine yYo hO ?_;cases hO2:O.2 with
   |true=>
    rw[hO2,if_pos rfl]at hWT;subst hWT;have hW1:=hWW O.1;generalize rD x k (rH w O.1)=R at *;refine goQ_ ?_;refine yYp hW1 ?_;exact yafA hre
   | false=>
    rw[hO2,if_neg zaH]at hWT;subst hWT;have hW1:=hWW L.1;have hW2:=hWR L.1 L.2;generalize qJ (rD x k (rH w L.1)) sd L.2=R2 at *;generalize rD x k (rH w L.1)=R at *;refine goQ_ ?_;refine yYq hSR (yaeT hr gr hsl ?_);refine yYs hCh (goQ_ ?_);refine yYs hLv ?_
    by_cases hlt:cl<lv
    .rw[if_pos hlt]at hLe;subst hLe;refine yafw hlt ?_;refine yYp hFi (goQ_ ?_);refine yYo hW1 (goQ_ ?_);refine yYo hW2 ?_;exact yafA hre
    .rw[if_neg hlt]at hLe;subst hLe;refine yafw hlt ?_;refine yYp hDr (goQ_ ?_);refine yYo hW1 (goQ_ ?_);refine yYo hW2 ?_;exact yafA hre
def aO(w:yR8)(i:Nat):yRT:=(w.Calls.getD i default).yRT
def bY(w:yR8)(r:Reach)(i:Nat):Bool:=lJ w.yR0 r (aO w i)
def placesTo(w:yR8)(r:Reach)(o:List Nat)(j:Nat):List Nat:=(o.take j).filter (bY w r)
def tC(w:yR8)(ps:List Nat):List yRT:=ps.map (aO w)
def yfE{w:yR8}{r:Reach}{o:List Nat}{j i:Nat}(h:o[j]?=some i):placesTo w r o (j+1)=if bY w r i then placesTo w r o j++[i]else placesTo w r o j:=by
 unfold placesTo;rw[zao,h,zcp];cases hm:bY w r i<;>simp[hm]
def ybs{w:yR8}{r:Reach}{o:List Nat}{j:Nat}:(placesTo w r o j).length<=o.length:=by
 refine zaX (zbQ _ _) ?_;rw[zay];omega
def ydr{w:yR8}{ps:List Nat}:(tC w ps).length=ps.length:=by simp[tC]
def yCN{w:yR8}{r:Reach}{i:Nat}(h:bY w r i=true):(aO w i).Up=decide (w.yR0.Gate=2)/\oC (aO w i)=true:=by
 simp only[bY,lJ,zad,decide_eq_true_eq]at h;refine⟨?_,h.1.1.2⟩;rw[h.1.2];cases(aO w i).Up<;>simp[yaI]
def places(x:yRW)(k:Nat):List Nat:=placesTo (dW x.yRX k) (dR x.yRV (jM x k)) (kS (dW x.yRX k).Calls x.Time) (kS (dW x.yRX k).Calls x.Time).length
def yvB:(default:yR4).yRT.small:=⟨zbA _,λy hy=>nomatch hy⟩
def ya9{w:yR8}(h:oM w.Calls)(i:Nat):(aO w i).small:=by
 unfold aO;rw[zaf];cases hci:w.Calls[i]? with
 |none=>exact yvB
 |some c=>exact h.2 c (zac hci)
def yxH{l:yR0}{q:List yRT}(hq:∀t∈q,t.small):(∀c∈sQ l q,c<q.length)/\(sQ l q).length<=8:=by
 unfold sQ;split
 .obtain⟨_,h2,h3⟩:=ykZ (l:=l) (q:=q) (n:=yau q) (top:=yrO (yau q)) hq (by unfold yau;omega) (by unfold yau;omega) (yrO (yau q));exact⟨λc hc=>by have:=h2 c hc;unfold yau at this;omega,h3⟩
 .simp
def yhn{w:yR8}{r:Reach}{o:List Nat}{j i:Nat}(h:i∈placesTo w r o j):i∈o/\bY w r i=true:=by
 obtain⟨h1,h2⟩:=zbE.1 h;exact⟨zas h1,h2⟩
def xR(r:Reach)(l:yR0)(ts:List yRT):yR0:=ts.foldl (λl t=>(xH l r t).1) l
def aU(x:yRW)(ts:List yRT):List ySb:=ts.foldl (λb t=>(gJ b (jH x.yRZ t x.Time)).1) x.Book
def gZ(g:List Bool)(is:List Nat):List Bool:=is.foldl (λg i=>g.set i true) g
def nK(x:yRW)(k:Nat)(ts:List yRT):List yR2:=ts.map λt=>⟨x.Time,k,t⟩
def yqC{r:Reach}{l:yR0}{ts:List yRT}{t:yRT}:xR r l (ts++[t])=(xH (xR r l ts) r t).1:=by simp[xR]
def yqZ{x:yRW}{ts:List yRT}{t:yRT}:aU x (ts++[t])=(gJ (aU x ts) (jH x.yRZ t x.Time)).1:=by simp[aU]
def yqA{g:List Bool}{is:List Nat}{i:Nat}:gZ g (is++[i])=(gZ g is).set i true:=by simp[gZ]
def yhN{g:List Bool}:∀{is:List Nat},(gZ g is).length=g.length:=by
 intro is;unfold gZ
 induction is generalizing g with
 |nil=>rfl
 |cons i is ih=>rw[zci,ih];simp
def mO(cs:List yR4)(g:List Bool)(k:Nat):List yR4:=((List.range k).filter λi=>!(g.getD i false)).map λi=>cs.getD i default
def yqL{cs:List yR4}{g:List Bool}{k:Nat}{c:yR4}(h:cs[k]?=some c):mO cs g (k+1)=if g.getD k false then mO cs g k else mO cs g k++[c]:=by
 unfold mO;rw[zdc,zcp];cases hg:g.getD k false<;>simp[zaf]at hg|-<;>simp[hg,h]
def ymW{cs:List yR4}{g:List Bool}{k:Nat}:(mO cs g k).length<=k:=by
 unfold mO;rw[zam];exact zaX (zbQ _ _) (by simp)
def yBN{cs:List yR4}{g:List Bool}{k:Nat}(hk:k<=cs.length){p:yR4->Prop}(hp:∀c∈cs,p c):∀c∈mO cs g k,p c:=by
 intro c hc;obtain⟨i,hi,rfl⟩:=zaM.1 hc;have:=zaQ.1 (zbE.1 hi).1;rw[zaf,zab (by omega)];exact hp _ (zbJ _)
def chosen(x:yRW)(k:Nat):List Nat:=sQ (dW x.yRX k).yR0 (tC (dW x.yRX k) (places x k))
def yeC(x:yRW)(k:Nat):Bool:=decide ((dW x.yRX k).yR0.yRY=[])&&bW (dW x.yRX k).Pauses x.Time&& !decide (chosen x k=[])
def yiZ(x:yRW)(k:Nat):List yRT:=qAt (tC (dW x.yRX k) (places x k)) (chosen x k)
def yyy(x:yRW)(k:Nat):List Bool:=gZ (List.replicate (dW x.yRX k).Calls.length false) ((chosen x k).map λc=>(places x k).getD c 0)
def yj(x:yRW)(k:Nat):yR8:=⟨(xR (dR x.yRV (jM x k)) (dW x.yRX k).yR0 (yiZ x k)).yra 0,(dW x.yRX k).ySp,(dW x.yRX k).Rule,(dW x.yRX k).Pauses,nY (dW x.yRX k).Turn ((yiZ x k).getD 0 ⟨false,[]⟩).Up,mO (dW x.yRX k).Calls (yyy x k) (dW x.yRX k).Calls.length⟩
def bH(x:yRW)(k:Nat):yRW×Bool:=
 if yeC x k then(rD ⟨x.Time,x.yRV,x.ySl,x.yRX,x.yR3,x.yR9,x.ySd,x.yRZ,aU x (yiZ x k),x.yR1++nK x k (yiZ x k),x.Start,x.In,x.Out⟩ k (yj x k),true)else(x,false)
def ypi(b:Bool):List C:=[.b b]
def ykm(x:yRW):List yRT->AV
 |[]=>.clip 4 (x.yR1.map yR2.enc)
 |t::ts=>.own 156 4 (x.yR1.length+(ts.length+1))
def yh3(x:yRW)(k:Nat):List yRT->Obj
 |[]=>.none
 |t::ts=>.row 4 ((x.yR1++nK x k (t::ts)).map yR2.enc)
def yIn(x:yRW)(ts:List yRT):List AV:=[.c (.i x.Time),.c (.sl 3 (x.yRV.map Reach.enc)),.c (.sl 2 (x.ySl.map Way.enc)),.c (.sl 22 (x.yRX.map yR8.enc)),.c (.sl 1 (x.yR3.map nD)),.c (.sl 2 (x.yR9.map yRT.enc)),.c (.sl 1 (x.ySd.map qC)),.c (.i x.yRZ.Base),.c (.i x.yRZ.ySe),.c (.sl 1 (x.yRZ.yR5.map qC)),.c (.sl 1 (x.yRZ.yR7.map qC)),.c (.sl 5 ((aU x ts).map ySb.enc)),ykm x ts,.c (.i x.Start),.c (.i x.In),.c (.i x.Out)]
def yAX{l:yR0}{r:Reach}{t:yRT}{n:Nat}(h:l.yRY.length<=n/\∀y∈l.yRY,y.small)(ht:t.small):(xH l r t).1.yRY.length<=n+1/\∀y∈(xH l r t).1.yRY,y.small:=by
 unfold xH;split
 .refine⟨by simp;omega,λy hy=>?_⟩;have hy:y∈l.yRY++[t]:=hy;rcases zaj.1 hy with e|e
  .exact h.2 y e
  .rw[zan.1 e];exact ht
 .exact⟨by simp only;omega,h.2⟩
def yZ{r:Reach}:∀(ts:List yRT) (l:yR0) (n:Nat),(l.yRY.length<=n/\∀y∈l.yRY,y.small)->(∀t∈ts,t.small)->(xR r l ts).yRY.length<=n+ts.length/\∀y∈(xR r l ts).yRY,y.small
 |[],l,n,h,_=>h
 |t::ts,l,n,h,ht=>by
  have h1:=yAX (r:=r) h (ht t (by simp));have h2:=yZ (r:=r) ts _ _ h1 λy hy=>ht y (by simp[hy]);have e:xR r l (t::ts)=xR r (xH l r t).1 ts:=rfl;rw[e,zaA];exact⟨by omega,h2.2⟩
def ynk{x:yRW}:∀(n:Nat) (ts:List yRT),ts.length<=n->(aU x ts).length<=x.Book.length+12*ts.length:=by
 intro n
 have h:∀(ts:List yRT) (b:List ySb),(ts.foldl (λb t=>(gJ b (jH x.yRZ t x.Time)).1) b).length<=b.length+12*ts.length:=by
  intro ts
  induction ts with
  |nil=>intro b;simp
  |cons t ts ih=>
   intro b;have h1:=yrC b (jH x.yRZ t x.Time);have h2:=ycW x.yRZ t x.Time;have h3:=ih (gJ b (jH x.yRZ t x.Time)).1;rw[zci,zaA];omega
 exactλts _=>h ts x.Book
def yFG(es:List yR2):qB prg 290 [.c (.sl 4 (es.map yR2.enc))] (.clip 4 (es.map yR2.enc)):=by
 refine dB xX ?_;simp -dsimp -implicitDefEqProofs [sN,jA]
set_option maxHeartbeats 8000000 in
set_option maxRecDepth 40000 in
def ysl(x:yRW)(k:Nat)(hs:x.small)(F:ySq x k):qB prg 187 [.agg (x.enc.map .c),.c (.i k)] (.tup [.agg ((bH x k).1.enc.map .c),.c (.b (bH x k).2)]):=by
 have kw:=F.kw;have kr:=F.kr;have sw:=F.sw;have rl:=F.rl;have c24:=F.calls;have hw:=yi4 F.kw;have hsl:jM x k<x.yRV.length:=by unfold jM lI;split<;>omega
 have hr:=ye8 hsl;have hsr:=hs.1.2 _ (zac hr);have hSR:=yd4 k (yag x k) (by omega);have hsd:lI k (yag x k)=jM x k:=rfl;rw[hsd]at hSR;have hGA:yag x k=(dW x.yRX k).yR0.Gate:=rfl;rw[hGA]at hSR;obtain⟨R,hR⟩:∃R,bH x k=R:=⟨_,rfl⟩;rw[hR];unfold bH yeC yj yyy yiZ chosen places at hR;generalize jM x k=sd at *;generalize dR x.yRV sd=r at *;generalize dW x.yRX k=w at *;have gw:=(zaa.1 hw).2;have gr:=(zaa.1 hr).2;have hO:=yf8 w.Calls x.Time sw.2.2;have hol:=ygT (list:=w.Calls) (now:=x.Time);have hlt:=yjA (list:=w.Calls) (now:=x.Time);generalize kS w.Calls x.Time=o at *;refine dB ypN ?_;simp -dsimp -implicitDefEqProofs [ygE,hw,gw,kw,fC kw]
 by_cases hI:w.yR0.yRY=[]
 rotate_left
 .have i1:(0<w.yR0.yRY.length)=True:=eq_true (zbf.2 hI);have i2:(w.yR0.yRY=[])=False:=eq_false hI;rw[if_neg (by simp[hI])]at hR;subst hR;exact yafJ i1 i2
 have i1:(0<w.yR0.yRY.length)=False:=eq_false (by rw[hI];simp);have i2:(w.yR0.yRY=[])=True:=eq_true hI;refine yaed i1 i2 ?_;intro _;refine yYq (yAC w.Pauses x.Time) ?_;cases hop:bW w.Pauses x.Time with
 |false=>
  rw[if_neg (by simp[hop])]at hR;subst hR;exact goE_
 |true=>
 refine goQ_ ?_;refine yYr hSR (yaeT hr gr hsl ?_);refine qU hO (by simp) rfl (by simp[fD]) (goQ_ ?_);intro hlen;refine jX (k0:=1) 8 1 (by simp) (by simp) (by decide) ?_;refine jX (k0:=2) 9 2 (by simp) (by simp) (by decide) ?_;refine yX2 (λj=>j<=o.length) (λj=>xC [(1,.c (.i k)),(2,.box 2 0),(4,.box 4 0),(5,.c (.b false)),(6,.box 6 0),(7,.box 7 0),(8,.own 8 1 (placesTo w r o j).length),(9,.own 9 2 (placesTo w r o j).length),(53,.own 53 1 o.length),(54,.c (.i o.length)),(55,.c (.i j))] [(2,.box (x.enc.map .c)),(4,zW),(6,.box (w.enc.map .c)),(7,.box (r.enc.map .c)),(8,.row 1 ((placesTo w r o j).map kC)),(9,.row 2 ((tC w (placesTo w r o j)).map yRT.enc)),(53,.row 1 (o.map kC))]) (λj=>o.length-j) (by apply aB<;>simp[placesTo,tC]) ?_
 rintro j hj
 have hpl:=ybs (w:=w) (r:=r) (o:=o) (j:=j);have htl:=ydr (w:=w) (ps:=placesTo w r o j);rcases yX1 j o with⟨jlt,i,hi⟩|jge
 .have gi:=(zaa.1 hi).2;have il:=hlt i (zac hi);obtain⟨c,hc⟩:∃c,w.Calls[i]?=some c:=⟨_,zab il⟩;have gc:=(zaa.1 hc).2;have hca:aO w i=c.yRT:=by simp[aO,zaf,hc]
  have hct:c.yRT.small:=sw.2.2.2 c (zac hc);have hps:=yfE (w:=w) (r:=r) hi;have hM:=ylM w.yR0 r c.yRT sw.1 hct;have hmc:lJ w.yR0 r c.yRT=bY w r i:=by unfold bY;rw[hca]
  rw[hmc]at hM;have hup:=yCN (w:=w) (r:=r) (i:=i);rw[hca]at hup;cases hm:bY w r i with
  |true=>
   rw[hm]at hM;rw[hm,if_pos rfl]at hps;have hup:=(hup hm).1;have upT:(c.yRT.Up=decide (w.yR0.Gate=2))=True:=eq_true hup;have e3:(placesTo w r o (j+1)).length=(placesTo w r o j).length+1:=by rw[hps,zah,zaY]
   have e4:(placesTo w r o (j+1)).map kC=(placesTo w r o j).map kC++[[C.i i]]:=by rw[hps];simp[kC]
   have e5:(tC w (placesTo w r o (j+1))).map yRT.enc=(tC w (placesTo w r o j)).map yRT.enc++[[C.b c.yRT.Up,C.sl 1 (c.yRT.Rows.map jE)]]:=by rw[hps];simp[tC,hca]
   simp -dsimp -implicitDefEqProofs [hi,gi,fC jlt,jlt,kC,hc,gc,il,upT];refine yYq hM (yafw htl ?_);refine⟨by omega,by omega,gB jlt hlen,j+1,jlt,by omega,?_⟩;apply aB<;>simp[e3,e4,e5]
  | false=>
   rw[hm]at hM;rw[hm,if_neg zaH]at hps;simp -dsimp -implicitDefEqProofs [hi,gi,fC jlt,jlt,kC,hc,gc,il];refine⟨λ_=>?_,λ_=>?_⟩
   .have hM':=hM;refine yYq (hM') (goQ_ ?_);refine⟨gB jlt hlen,j+1,jlt,by omega,?_⟩;apply aB<;>simp[hps]
   .refine⟨gB jlt hlen,j+1,jlt,by omega,?_⟩;apply aB<;>simp[hps]
 .obtain rfl:j=o.length:=by omega
  have hPm:∀i∈placesTo w r o o.length,i<w.Calls.length:=λi hi=>hlt i (yhn hi).1;generalize placesTo w r o o.length=P at *
  have hqs:∀t∈tC w P,t.small:=λt ht=>by
   obtain⟨i,_,rfl⟩:=zaM.1 ht;exact ya9 sw.2.2 i
  have hB:=ysZ w.yR0 (tC w P) sw.1 hqs (by rw[htl];omega);obtain⟨hBm,hB8⟩:=yxH (l:=w.yR0) hqs;generalize sQ w.yR0 (tC w P)=B at *;have htk:List.take P.length ((tC w P).map yRT.enc)=(tC w P).map yRT.enc:=List.take_of_length_le (by simp[htl]);refine yafw (aG jge) ?_;refine sD hB (by simp -dsimp -implicitDefEqProofs [htk]) (by simp[AV.closed,AV.jI,C.closed,kC]) (by simp[fD]) ?_
  by_cases hB0:B=[]
  .rw[if_neg (by simp[hB0])]at hR;subst hR;exact yafA hB0
  have b0:(B=[])=False:=eq_false hB0;have b1:((B.length:Int)=0)=False:=eq_false (by have:=zbf.2 hB0;omega);rw[if_pos (by simp[hI,hop,hB0])]at hR;refine yaed b0 b1 ?_;intro hlenB;refine yYp (yFG x.yR1) (goQ_ ?_)
  refineλhlenC=>⟨by omega,λhlenD=>?_⟩
  have hP8:=ybs (w:=w) (r:=r) (o:=o) (j:=o.length);have hts:∀j,(qAt (tC w P) (B.take j)).length<=j:=λj=>by simp[qAt];omega
  have htm:∀j,∀t∈qAt (tC w P) (B.take j),t.small:=λj=>yg0 hqs λy hy=>hBm y (zas hy);refine yX2 (λj=>j<=B.length) (λj=>xC [(1,.c (.i k)),(2,.box 2 0),(4,.box 4 0),(5,.c (.b false)),(6,.box 6 0),(7,.box 7 0),(8,.own 8 1 P.length),(9,.own 9 2 P.length),(13,.own 91 1 B.length),(14,.box 14 0),(15,.own 104 1 w.Calls.length),(105,.own 91 1 B.length),(106,.c (.i B.length)),(107,.c (.i j))] [(2,.box (x.enc.map .c)),(4,zW),(6,.box ((rH w (xR r w.yR0 (qAt (tC w P) (B.take j)))).enc.map .c)),(7,.box (r.enc.map .c)),(8,.row 1 (P.map kC)),(9,.row 2 ((tC w P).map yRT.enc)),(91,.row 1 (B.map kC)),(14,.box (yIn x (qAt (tC w P) (B.take j)))),(104,.row 1 ((gZ (List.replicate w.Calls.length false) ((B.map λc=>P[c]?.getD 0).take j)).map ypi)),(156,yh3 x k (qAt (tC w P) (B.take j)))]) (λj=>B.length-j) (by apply aB<;>simp[Obj.leO,qAt,xR,aU,gZ,yIn,ykm,yh3,ypi]) ?_
  rintro j hj
  rcases yX1 j B with⟨jlt,c,hc⟩|jge2
  .have gc:=(zaa.1 hc).2;have cl:=hBm c (zac hc);rw[htl]at cl;obtain⟨p,hp⟩:∃p,P[c]?=some p:=⟨_,zab cl⟩;have gp:=(zaa.1 hp).2;have pl:=hPm p (zac hp);have htq:(tC w P)[c]?=some (aO w p):=by simp[tC,hp]
   have tsm:=ya9 sw.2.2 p;have hb1:B.take (j+1)=B.take j++[c]:=by rw[zao,hc];rfl
   have hq1:qAt (tC w P) (B.take (j+1))=qAt (tC w P) (B.take j)++[aO w p]:=by rw[hb1];exact ygs htq
   have hL1:=yqC (r:=r) (l:=w.yR0) (ts:=qAt (tC w P) (B.take j)) (t:=aO w p);have hK1:=yqZ (x:=x) (ts:=qAt (tC w P) (B.take j)) (t:=aO w p)
   have hG1:gZ (List.replicate w.Calls.length false) ((B.map λc=>P[c]?.getD 0).take (j+1))=(gZ (List.replicate w.Calls.length false) ((B.map λc=>P[c]?.getD 0).take j)).set p true:=by
    rw[<-zaV,<-zaV,hb1,zaB,zdN,yqA,hp];rfl
   have hgl:=yhN (g:=List.replicate w.Calls.length false) (is:=(B.map λc=>P[c]?.getD 0).take j);rw[zbq]at hgl;have hls:=yZ (r:=r) (qAt (tC w P) (B.take j)) w.yR0 1048 ⟨by rw[hI];simp,sw.1.2⟩ (htm j);have hbl:=ynk (x:=x) j (qAt (tC w P) (B.take j)) (hts j);have hts':=hts j;generalize qAt (tC w P) (B.take j)=ts at *;generalize gZ (List.replicate w.Calls.length false) ((B.map λc=>P[c]?.getD 0).take j)=G at *;have hbk:=F.book;have hE:=ytO (xR r w.yR0 ts) r (aO w p) ⟨by omega,hls.2⟩ tsm;have hTE:=ynv x.yRZ (aO w p) x.Time tsm;have hTl:=ycW x.yRZ (aO w p) x.Time;have hPE:=yol (aU x ts) (jH x.yRZ (aO w p) x.Time) (by omega) (by omega);generalize jH x.yRZ (aO w p) x.Time=te at *;generalize hEe:xH (xR r w.yR0 ts) r (aO w p)=EE at *;generalize gJ (aU x ts) te=PE at *;generalize aO w p=t at *;have gtq:=(zaa.1 htq).2;have ltq:c<(tC w P).length:=by rw[htl];exact cl
   have hpG:p<G.length:=by rw[hgl];exact pl
   obtain⟨gv,hgv⟩:∃gv,G[p]?=some gv:=⟨_,zab hpG⟩;have ggv:=(zaa.1 hgv).2;simp -dsimp -implicitDefEqProofs [fC jlt,jlt,hc,gc,kC,cl,htq,gtq,ltq];refine yYo hE ?_;simp -dsimp -implicitDefEqProofs [yIn,hc,gc,jlt,hp,gp,cl,pl,hgl,hpG,kC,htq,gtq,ltq];refine yYo hTE (goQ_ ?_);refine yYo hPE ?_;rcases ts with _|⟨t0,ts⟩
   .have hq1:qAt (tC w P) (B.take (j+1))=[t]:=hq1;have hL1:xR r w.yR0 [t]=EE.1:=hL1;have hK1:aU x [t]=PE.1:=hK1;have hpr:(nK x k [t]).map yR2.enc=[[C.i x.Time,C.i k,C.b t.Up,C.sl 1 (t.Rows.map jE)]]:=by simp[nK]
    simp -dsimp -implicitDefEqProofs [yIn,ykm,yh3,hc,gc,jlt,hp,gp,cl,kC,htq,gtq,ltq,hgv,ggv];refine⟨by have:=hs.2.2.2.2.2.2.2.2.1;omega,gB jlt hlenB,j+1,jlt,by omega,?_⟩;apply aB<;>simp[yIn,ykm,yh3,hpr,hq1,hL1,hK1,hG1,hgv,ggv,hpG,ypi,zaP]
   .have hq1:qAt (tC w P) (B.take (j+1))=t0::(ts++[t]):=hq1;have hL1:xR r w.yR0 (t0::(ts++[t]))=EE.1:=hL1;have hK1:aU x (t0::(ts++[t]))=PE.1:=hK1;have hpl2:(nK x k (t0::ts)).length=ts.length+1:=by simp[nK]
    have hpl3:x.yR1.length+(nK x k (t0::ts)).length+1=x.yR1.length+(ts.length+1+1):=by omega
    have hpr:(nK x k (t0::(ts++[t]))).map yR2.enc=(nK x k (t0::ts)).map yR2.enc++[[C.i x.Time,C.i k,C.b t.Up,C.sl 1 (t.Rows.map jE)]]:=by simp[nK]
    simp only[zaA]at hts';simp -dsimp -implicitDefEqProofs [yIn,ykm,yh3,hc,gc,jlt,hp,gp,cl,kC,htq,gtq,ltq,hgv,ggv];refine⟨hpl2.symm,by have:=hs.2.2.2.2.2.2.2.2.1;rw[hpl2];omega,gB jlt hlenB,j+1,jlt,by omega,?_⟩;apply aB<;>simp[yIn,ykm,yh3,hpr,hq1,hL1,hK1,hG1,hgv,ggv,hpG,hpl3,ypi,zaP]
  .obtain rfl:j=B.length:=by omega
   obtain⟨ts,hT⟩:∃ts,qAt (tC w P) B=ts:=⟨_,rfl⟩;obtain⟨G,hG⟩:∃G,gZ (List.replicate w.Calls.length false) (B.map λc=>P[c]?.getD 0)=G:=⟨_,rfl⟩;have hgl:=yhN (g:=List.replicate w.Calls.length false) (is:=B.map λc=>P[c]?.getD 0);rw[zbq,hG]at hgl;have hls:=yZ (r:=r) ts w.yR0 1048 ⟨by rw[hI];simp,sw.1.2⟩ (by rw[<-hT];exact yg0 hqs hBm);have hts8:ts.length=B.length:=by rw[<-hT];simp[qAt]
   have e1:B.take B.length=B:=List.take_length;have e2:(B.map λc=>P[c]?.getD 0).take B.length=B.map λc=>P[c]?.getD 0:=List.take_of_length_le (by simp);simp only[zaf]at hR;rw[hT,hG]at hR;rw[e1,e2,hT,hG]
   obtain⟨t0,tl,hts⟩:∃t0 tl,ts=t0::tl:=by
    cases ts with
    |nil=>simp at hts8;exact absurd (zav.1 hts8.symm) hB0
    |cons a b=>exact⟨a,b,rfl⟩
   have hck:∀k0 t,w.Calls[k0]?=some t->mO w.Calls G (k0+1)=if G.getD k0 false then mO w.Calls G k0 else mO w.Calls G k0++[t]:=λk0 t h=>yqL h
   generalize hLI:xR r w.yR0 ts=LI at *;refine yafw (aG jge2) ?_;intro hlen3;refine jX (k0:=4) 18 4 (by simp) (by simp) (by decide) ?_;refine yX2 (λi=>i<=w.Calls.length) (λi=>xC [(1,.c (.i k)),(2,.box 2 0),(4,.box 4 0),(5,.c (.b false)),(6,.box 6 0),(9,.own 9 2 P.length),(13,.own 91 1 B.length),(14,.box 14 0),(15,.own 104 1 w.Calls.length),(18,.own 18 4 (mO w.Calls G i).length),(160,.c (.sl 4 (w.Calls.map yR4.enc))),(161,.c (.i w.Calls.length)),(162,.c (.i i))] [(2,.box (x.enc.map .c)),(4,zW),(6,.box ((rH w LI).enc.map .c)),(9,.row 2 ((tC w P).map yRT.enc)),(91,.row 1 (B.map kC)),(14,.box (yIn x ts)),(18,.row 4 ((mO w.Calls G i).map yR4.enc)),(104,.row 1 (G.map ypi)),(156,yh3 x k ts)]) (λi=>w.Calls.length-i) (by apply aB<;>simp[Obj.leO,mO,hts,yIn,ykm,yh3]) ?_
   rintro i hi
   have hll:=ymW (cs:=w.Calls) (g:=G) (k:=i);rcases yX1 i w.Calls with⟨ilt,c,hc⟩|ige
   .have gc:=(zaa.1 hc).2;obtain⟨gv,hgv⟩:∃gv,G[i]?=some gv:=⟨_,zab (by rw[hgl];exact ilt)⟩;have ggv:=(zaa.1 hgv).2;have igl:i<G.length:=by rw[hgl];exact ilt
    have hsu:=hck i c hc;rw[zaf,hgv]at hsu;cases gv with
    |true=>
     rw[if_pos (by rfl)]at hsu;simp -dsimp -implicitDefEqProofs [fC ilt,ilt,hc,gc,hgv,ggv,igl,ypi];refine⟨gB ilt hlen3,i+1,ilt,by omega,?_⟩;apply aB<;>simp[hsu,hts,yIn,ykm,yh3]
    |false=>
     rw[if_neg (by simp)]at hsu;simp -dsimp -implicitDefEqProofs [fC ilt,ilt,hc,gc,hgv,ggv,igl,ypi];refine⟨by omega,gB ilt hlen3,i+1,ilt,by omega,?_⟩;apply aB<;>simp[hsu,hts,yIn,ykm,yh3]
   .obtain rfl:i=w.Calls.length:=by omega
    obtain⟨b0,hb0⟩:∃b0,B[0]?=some b0:=⟨_,zab (zbf.2 hB0)⟩;have gb0:=(zaa.1 hb0).2;have lb0:=(zaa.1 hb0).1;have lq0:=hBm b0 (zac hb0)
    have hq0:(tC w P)[b0]?=some t0:=by
     have h1:ts[0]?=some t0:=by rw[hts];rfl
     rw[<-hT]at h1;simp only[qAt,zat,hb0,zaL,Option.some.injEq,zaf,zab lq0,zbc]at h1;rw[zab lq0,h1]
    have gq0:=(zaa.1 hq0).2;have lqP:b0<P.length:=by rw[<-htl];exact lq0
    have h0:ts[0]?.getD ⟨false,[]⟩=t0:=by rw[hts];rfl
    rw[h0]at hR;have hNT:=ywG w.Turn t0.Up;have hW1:=ycd ⟨x.Time,x.yRV,x.ySl,x.yRX,x.yR3,x.yR9,x.ySd,x.yRZ,aU x ts,x.yR1++nK x k ts,x.Start,x.In,x.Out⟩ k ⟨LI.yra 0,w.ySp,w.Rule,w.Pauses,nY w.Turn t0.Up,mO w.Calls G w.Calls.length⟩ hs.2.2.1.1 kw;generalize hNe:nY w.Turn t0.Up=NT at *;have hR:(rD ⟨x.Time,x.yRV,x.ySl,x.yRX,x.yR3,x.yR9,x.ySd,x.yRZ,aU x ts,x.yR1++nK x k ts,x.Start,x.In,x.Out⟩ k ⟨LI.yra 0,w.ySp,w.Rule,w.Pauses,NT,mO w.Calls G w.Calls.length⟩,true)=R:=hR;rw[<-hR];generalize rD ⟨x.Time,x.yRV,x.ySl,x.yRX,x.yR3,x.yR9,x.ySd,x.yRZ,aU x ts,x.yR1++nK x k ts,x.Start,x.In,x.Out⟩ k ⟨LI.yra 0,w.ySp,w.Rule,w.Pauses,NT,mO w.Calls G w.Calls.length⟩=W1 at *;generalize mO w.Calls G w.Calls.length=LC at *;have hpl2:(nK x k (t0::tl)).length=tl.length+1:=by simp[nK]
    subst hts;simp -dsimp -implicitDefEqProofs [aG ige,hb0,gb0,lb0,hq0,gq0,lq0,lqP,kC,yIn,ykm,yh3];refine yYr hNT ?_;simp -dsimp -implicitDefEqProofs [yIn,ykm,yh3];have htp:List.take (x.yR1.length+(tl.length+1)) (x.yR1.map yR2.enc++(nK x k (t0::tl)).map yR2.enc)=x.yR1.map yR2.enc++(nK x k (t0::tl)).map yR2.enc:=List.take_of_length_le (by simp[hpl2]);refine yGz [18,156] hW1 (by simp -dsimp -implicitDefEqProofs [htp,jA]) rfl ?_;exact goE_
def yxc(a b:Int):ykT a b=ykT b a:=by unfold ykT;split<;>split<;>omega
def iQ(l:yR0)(hl:l.small):qB prg 209 [.agg (l.enc.map .c)] (.c (.i (bG l))):=by
 refine dB ylG (goQ_ ?_);refine aA (dV l hl) ?_;cases h:lF l with
 |false=>simp -dsimp;simp[bG,h]
 |true=>
 have f:=qW h;have f1:=f.base;have f2:=ytP f.water f.area.1;have f3:=f.area;have e:bG l=ykT (l.Base+l.ySn.tdiv l.Area) 100000:=by simp[bG,h]
 rw[e];refine goQ_ ?_;exact⟨by omega,by unfold inI;omega,by unfold inI;omega,by rw[yxc];rfl⟩
def ymz(l:yR0)(hl:l.small):qB prg 215 [.agg (l.enc.map .c)] (.agg ((if lF l then l.yra 0 else l).enc.map .c)):=by
 refine dB yrV (goQ_ ?_);refine dD (yb7 l hl) (goQ_ ?_);refine aA (dV l hl) ?_;cases h1:lF l with
 |false=>simp -dsimp
 |true=>simp -dsimp
def ylU(l:yR0)(r:Reach)(t:yRT):Bool:=decide (oH t<=kD r-(if l.Gate=2 then l.ySj else l.ySi))
def yhL(l:yR0)(r:Reach)(t:yRT)(hk:lF l=true)(ht:t.small):qB prg 316 [.agg (l.enc.map .c),.agg (r.enc.map .c),.agg (t.enc.map .c)] (.c (.b (ylU l r t))):=by
 have f:=qW hk;have f1:=f.sa;have f2:=f.sb;have la:=kM r;refine dB ytU (goQ_ ?_)
 by_cases hg:l.Gate=2
 .refine yafw hg ?_;refine lC (dN r) (goQ_ ?_);refine⟨by unfold inI;omega,?_⟩;refine lC (ybk t ht) ?_;simp -dsimp[ylU,hg]
 .refine yafw hg ?_;refine lC (dN r) (goQ_ ?_);refine⟨by unfold inI;omega,?_⟩;refine lC (ybk t ht) ?_;simp -dsimp[ylU,hg]
def yCv{l:yR0}{r:Reach}{t:yRT}(h:l.Gate=1\/l.Gate=2):ylU l r t=decide (oH t<=kD r-yeb l l.Gate):=by
 rcases h with h|h<;>simp[ylU,yeb,h]
def yfK(l:yR0)(r:Reach)(t:yRT)(hl:l.small)(ht:t.small):qB prg 317 [.agg (l.enc.map .c),.agg (r.enc.map .c),.agg (t.enc.map .c)] (.c (.b (lJ l r t))):=by
 refine dB yrP ?_;simp -implicitDefEqProofs;refine aA (dV l hl) ?_;cases h1:lF l with
 |false=>simp -implicitDefEqProofs;simp[lJ,h1]
 |true=>
 simp -implicitDefEqProofs;refine aA (qN r) ?_;cases h2:xE r with
 |false=>simp -implicitDefEqProofs;simp[lJ,h2]
 |true=>
 simp -implicitDefEqProofs;refine aA (jJ t ht) ?_;cases h3:oC t with
 |false=>simp -implicitDefEqProofs;simp[lJ,h3]
 |true=>
 have e:lJ l r t=(decide (l.Gate=yaI t.Up)&&decide (oH t<=kD r-yeb l (yaI t.Up))):=by simp[lJ,h1,h2,h3]
 rw[e];cases hu:t.Up with
 | true=>
  by_cases hg:l.Gate=2
  .simp -implicitDefEqProofs [hu,hg];refine mD (yhL l r t h1 ht) (by simp[hu,hg]) rfl ?_;simp -implicitDefEqProofs [yaI,ylU,hg,yeb]
  .simp -implicitDefEqProofs [hu,hg,yaI]
 | false=>
  by_cases hg:l.Gate=1
  .simp -implicitDefEqProofs [hu,hg];refine mD (yhL l r t h1 ht) (by simp[hu,hg]) rfl ?_;simp -implicitDefEqProofs [yaI,ylU,hg,yeb]
  .simp -implicitDefEqProofs [hu,hg,yaI]
def yvJ(l:yR0)(a b:Reach)(g:Int)(hl:l.small):qB prg 208 [.agg (l.enc.map .c),.agg (a.enc.map .c),.agg (b.enc.map .c),.c (.i g)] (.tup [.agg ((tK l a b g).1.enc.map .c),.c (.b (tK l a b g).2)]):=by
 have no:oP l a b g=false->tK l a b g=(l,false):=λh=>by simp[tK,h]
 have la:=kM a;have lb:=kM b;have lc:=yd5 l;refine dB yrh ?_;simp -implicitDefEqProofs;refine dD (yb7 l hl) ?_;simp -implicitDefEqProofs;refine aA (dV l hl) ?_;cases h1:lF l with
 |false=>rw[no (by simp[oP,h1])];simp -implicitDefEqProofs
 |true=>
 simp -implicitDefEqProofs;refine aA (qN a) ?_;cases h2:xE a with
 |false=>rw[no (by simp[oP,h2])];simp -implicitDefEqProofs
 |true=>
 simp -implicitDefEqProofs;refine aA (qN b) ?_;cases h3:xE b with
 |false=>rw[no (by simp[oP,h3])];simp -implicitDefEqProofs
 |true=>
 by_cases h4:l.Gate=0
 rotate_left
 .rw[no (by simp[oP,h4])];simp -implicitDefEqProofs [h4]
 have hcl:=iQ l hl;simp -implicitDefEqProofs [h4];refine aA (bC g 1 2) ?_;cases hg:inRange g 1 2 with
 |false=>
  have:¬(1<=g/\g<=2):=λh=>by rw[aC.2 h]at hg;cases hg
  rw[no (by simp[oP];omega)];simp -implicitDefEqProofs [h4]
 |true=>
 have hg2:g=1\/g=2:=by have:=aC.1 hg;omega
 rcases hg2 with rfl|rfl
 .have hs:ydG a b 1=kD a:=rfl
  have hin:inRange (bG l-kD a) (-1) 1=inRange (bG l) (kD a-1) (kD a+1):=by
   rw[zdd,aC,aC];omega
  simp -implicitDefEqProofs [h4];refine⟨_,_,hcl,by simp[h4],.inr rfl,?_⟩;simp -implicitDefEqProofs;refine lC (dN a) ?_;simp -implicitDefEqProofs;refine⟨by unfold inI;omega,?_⟩;refine lC (bC (bG l-kD a) (-1) 1) ?_;rw[hin];cases h5:inRange (bG l) (kD a-1) (kD a+1)with
  |false=>rw[no (by simp[oP,hs,h5])];simp -implicitDefEqProofs [h4]
  |true=>
   have e:tK l a b 1=(l.yra 1,true):=by simp[tK,oP,h1,h2,h3,h4,hs,h5]
   rw[e];simp -implicitDefEqProofs
 .have hs:ydG a b 2=kD b:=rfl
  have hin:inRange (bG l-kD b) (-1) 1=inRange (bG l) (kD b-1) (kD b+1):=by
   rw[zdd,aC,aC];omega
  simp -implicitDefEqProofs [h4];refine⟨_,_,hcl,by simp[h4],.inr rfl,?_⟩;simp -implicitDefEqProofs;refine lC (dN b) ?_;simp -implicitDefEqProofs;refine⟨by unfold inI;omega,?_⟩;refine lC (bC (bG l-kD b) (-1) 1) ?_;rw[hin];cases h5:inRange (bG l) (kD b-1) (kD b+1)with
  |false=>rw[no (by simp[oP,hs,h5])];simp -implicitDefEqProofs [h4]
  |true=>
   have e:tK l a b 2=(l.yra 2,true):=by simp[tK,oP,h1,h2,h3,h4,hs,h5]
   rw[e];simp -implicitDefEqProofs
def ywg(l:yR0)(r:Reach)(hl:l.small)(hr:r.small):qB prg 210 [.agg (l.enc.map .c),.agg (r.enc.map .c)] (.tup [.agg ((mM l r).1.enc.map .c),.agg ((mM l r).2.enc.map .c)]):=by
 have no:dY l r=false->mM l r=(l,r):=λh=>by simp[mM,h]
 have la:=kM r;have lc:=yd5 l;have hcr:=ypc r hr;refine dB yrU (goQ_ ?_);refine dD (yb7 l hl) (goQ_ ?_);refine lC (dV l hl) ?_;cases h1:lF l with
 |false=>
  rw[no (by simp[dY,h1])];simp -dsimp -implicitDefEqProofs;refine bI hcr ?_;exact goE_
 |true=>
 refine goQ_ ?_;refine lC (qN r) ?_;cases h2:xE r with
 |false=>
  rw[no (by simp[dY,h2])];simp -dsimp -implicitDefEqProofs;refine bI hcr ?_;exact goE_
 |true=>
 by_cases h4:l.Gate=0
 rotate_left
 .rw[no (by simp[dY,h4])];simp -dsimp -implicitDefEqProofs [h4];refine bI hcr ?_;exact yafA h4
 have f:=qW h1;have f1:=f.area;have f2:=f.water;have f3:=f.rate;refine yafw h4 ?_;refine⟨_,_,iQ l hl,by simp[h4],.inr rfl,goQ_ ?_⟩;refine lC (dN r) (goQ_ ?_);refine⟨λh5=>?_,λh5=>?_⟩
 .rw[no (by simp[dY];omega)];refine bI hcr ?_;exact yafA h4
 have hc:dY l r=true:=by simp[dY,h1,h2,h4];omega
 have e:mM l r=if 1000000000<l.ySn+(rG r (ya1 l r) 0).2 then(l,r)else(l.setW (l.ySn+(rG r (ya1 l r) 0).2),(rG r (ya1 l r) 0).1):=by simp only[mM,hc,if_true]
 rw[e];have m1:=yyJ (a:=l.Area) (b:=kD r-bG l) (A:=10000) (B:=1000000000) (by omega) (by omega);have hP:=yyN r (ya1 l r) 0 hr;have ht:=ysn r (ya1 l r) 0;have hN2:(if l.Area*(kD r-bG l)<l.ySs then l.Area*(kD r-bG l)else l.ySs)=ya1 l r:=by unfold ya1;rw[yxc];rfl
 refine ypC (dN r) (goQ_ ?_);refine nC (iQ l hl) (by simp[h4]) (.inr rfl) ?_;generalize rG r (ya1 l r) 0=z at *;refine yafw hN2 ?_;refine⟨by unfold inI;omega,by unfold inI;omega,?_⟩;refine bI hP (goQ_ ?_);refine⟨by unfold inI;omega,λh6=>?_,λh6=>?_⟩
 .rw[if_pos h6];refine bI hcr ?_;exact yafA h4
 .rw[if_neg (by omega)];simp -dsimp -implicitDefEqProofs [h4];unfold inI;omega
def yvo(l:yR0)(r:Reach)(hl:l.small)(hr:r.small):qB prg 211 [.agg (l.enc.map .c),.agg (r.enc.map .c)] (.tup [.agg ((rJ l r).1.enc.map .c),.agg ((rJ l r).2.enc.map .c)]):=by
 have no:yYU l r=false->rJ l r=(l,r):=λh=>by simp[rJ,h]
 have la:=kM r;have lc:=yd5 l;have hcr:=ypc r hr;refine dB ypz (goQ_ ?_);refine dD (yb7 l hl) (goQ_ ?_);refine lC (dV l hl) ?_;cases h1:lF l with
 |false=>
  rw[no (by simp[yYU,h1])];simp -dsimp -implicitDefEqProofs;refine bI hcr ?_;exact goE_
 |true=>
 refine goQ_ ?_;refine lC (qN r) ?_;cases h2:xE r with
 |false=>
  rw[no (by simp[yYU,h2])];simp -dsimp -implicitDefEqProofs;refine bI hcr ?_;exact goE_
 |true=>
 by_cases h4:l.Gate=0
 rotate_left
 .rw[no (by simp[yYU,h4])];simp -dsimp -implicitDefEqProofs [h4];refine bI hcr ?_;exact yafA h4
 have f:=qW h1;have f1:=f.area;have f2:=f.water;have f3:=f.rate;refine yafw h4 ?_;refine⟨_,_,iQ l hl,by simp[h4],.inr rfl,goQ_ ?_⟩;refine lC (dN r) (goQ_ ?_);refine⟨λh5=>?_,λh5=>?_⟩
 .rw[no (by simp[yYU];omega)];refine bI hcr ?_;exact yafA h4
 have hc:yYU l r=true:=by simp[yYU,h1,h2,h4];omega
 have e:rJ l r=if rO r<rV l r then(l,r)else(l.setW (l.ySn-rV l r),dU r (rV l r)):=by simp only[rJ,hc,if_true]
 rw[e];have m1:=yyJ (a:=l.Area) (b:=bG l-kD r) (A:=10000) (B:=100000) (by omega) (by omega);have hP:=yAK r (rV l r) hr;refine⟨_,_,iQ l hl,by simp[h4],.inr rfl,goQ_ ?_⟩;refine lC (dN r) (goQ_ ?_)
 have hN2:ykT l.ySs (ykT l.ySn (l.Area*(bG l-kD r)))=rV l r:=by
  unfold rV ykT;generalize l.Area*(bG l-kD r)=m
  (repeat' split)<;>omega
 unfold ykT at hN2
 have hd:0<=rV l r/\rV l r<=l.ySn:=by
  rw[<-hN2];generalize l.Area*(bG l-kD r)=m at *
  (repeat' split)<;>omega
 refine⟨by unfold inI;omega,by unfold inI;omega,?_⟩;refine aA (ynR r) (yafw hN2 ?_);refine⟨λh6=>?_,λh6=>?_⟩
 .rw[if_pos h6];refine bI hcr ?_;exact yafA h4
 rw[if_neg (show¬rO r<rV l r by omega)];refine⟨by unfold inI;omega,?_⟩;refine bI hP ?_;exact yafA h4
def yv4(t:Turn)(up:Bool):qB prg 321 [.agg (t.enc.map .c),.c (.b up)] (.agg ((nY t up).enc.map .c)):=by
 refine dB yrS (goQ_ ?_);refine aA (yjN t) ?_;cases h1:ybY t with
 |false=>simp -dsimp;simp[nY,h1]
 |true=>
 have hc1:=aC.1 h1
 by_cases hu:t.Up=up
 .refine yafw hu ?_;refine⟨by unfold inI;omega,?_⟩;simp[nY,h1,hu]
 .refine yafw hu ?_;simp[nY,h1,hu]
def yq0:∀{l:List ySf} {b:Int},0<=b->jR b l=true->∀p∈l,0<=p.From/\p.From<p.Until/\p.Until<=1000000
 |[],_,_,_,p,hp=>by cases hp
 |q::l,b,hb,h,p,hp=>by
  simp only[jR,eY,zad,zaU,decide_eq_false_iff_not]at h;rcases zaC.1 hp with e|e
  .subst e;omega
  .exact yq0 (b:=q.Until) (by omega) h.2 p e
def yE3{l:List ySf}(h:xO l=true):∀p∈l,0<=p.From/\p.From<p.Until/\p.Until<=1000000:=by
 simp only[xO,zad]at h;exact yq0 (zbC 0) h.2
def yAu(l:List ySf)(now:Int):qB prg 213 [.c (.sl 2 (l.map ySf.enc)),.c (.i now)] (.c (.b (bW l now))):=by
 refine dB ywB (goQ_ ?_);refine aA (ylL l) ?_;cases h1:xO l with
 |false=>simp -dsimp;simp[bW,h1]
 |true=>
 refine goQ_ ?_;refine aA (bC now 0 1000000) ?_;cases h2:inRange now 0 1000000 with
 |false=>simp -dsimp;simp[bW,h2]
 |true=>
 refine goQ_ ?_;refine yX4 (λk=>k<=l.length/\∀p∈l.take k,yc8 now p=false) (λk=>xC [(0,.c (.sl 2 (l.map ySf.enc))),(1,.c (.i now)),(5,.c (.i k))] []) (λk=>l.length-k) ?_
 rintro k ⟨hk,hno⟩
 rcases yX1 k l with⟨klt,p,hp⟩|kge
 .have gp:=(zaa.1 hp).2;have hmem:=zac hp;have hpo:=yE3 h1 p hmem
  have next:yc8 now p=false->∀p∈l.take (k+1),yc8 now p=false:=by
   intro h0 y hy;rw[zao,hp]at hy;rcases zaj.1 hy with e|e
   .exact hno y e
   .simp at e;rw[e];exact h0
  have hin:inRange now p.From (p.Until-1)=yc8 now p:=by
   rw[zdd,aC];simp only[yc8,zad,decide_eq_true_eq];omega
  refine yaeV hp gp klt (fC klt) ?_;intro hlen;refine⟨by unfold inI;omega,?_⟩;refine lC (bC now p.From (p.Until-1)) ?_;rw[hin];cases hs:yc8 now p with
  | true=>
   have e:bW l now=false:=by
    have:(l.all λp=>!yc8 now p)=false:=zdl.2 ⟨p,hmem,by simp[hs]⟩;simp[bW,this]
   rw[e];exact goE_
  |false=>
   have hn:=next hs
   refine goQ_ ?_;refine⟨gB klt hlen,k+1,⟨klt,hn⟩,by omega,?_⟩;apply aB<;>simp
 .have e:bW l now=true:=by
   have:(l.all λp=>!yc8 now p)=true:=zae.2 λp hp=>by
    rw[hno p (by rw[List.take_of_length_le kge];exact hp)];rfl
   simp[bW,h1,h2,this]
  rw[e];exact yafA (aG kge)
def yx6(t:yRT):Int:=(lG t).length
def yoR(q:List yRT)(l:List Nat):Int:=((qAt q l).map yx6).sum
def yDx(t:yRT):(lG t).length<=t.qE.length/\(oC t=true->(lG t).length=t.qE.length):=by
 unfold lG;split<;>simp_all
def yDj{t:yRT}(hs:t.small):0<=yx6 t/\yx6 t<=1099511627776:=by
 have h1:=ypM hs;have h2:=(yDx t).1;unfold yfv at h1;unfold yx6;omega
def yDV{q:List yRT}{l:List Nat}{k:Nat}{t:yRT}(h:q[k]?=some t):yoR q (l++[k])=yoR q l+yx6 t:=by
 unfold yoR;rw[ygs h];simp
def yxJ{q:List yRT}(hq:∀t∈q,t.small):∀l:List Nat,(∀x∈l,x<q.length)->0<=yoR q l/\yoR q l<=1099511627776*l.length
 |[],_=>by simp[yoR,qAt]
 | a::l,h=>by
  have ih:=yxJ hq l λx hx=>h x (by simp[hx]);have h1:=h a (by simp);have h2:=yDj (hq _ (zbJ h1))
  have e:yoR q (a::l)=yx6 q[a]+yoR q l:=by
   simp[yoR,qAt,zaf,zab h1]
  rw[e,zaA]
  push_cast
  omega
def yIf{q:List yRT}{l:List Nat}(h:∀t∈qAt q l,oC t=true):yoR q l=yai q l:=by
 unfold yoR yai;rw[zbe λt ht=>?_];unfold yx6 yfv;rw[(yDx t).2 (h t ht)]
def yHS{L W:Int}{a b:List yRT}(h:oO L W (a++b)=true):∀t∈b,oC t=true:=by
 simp only[oO,Distinct,zad,zae]at h
 exactλt ht=>h.1.1.1.2 t (zaj.2 (.inr ht))
set_option maxRecDepth 20000 in
def ykR(l:yR0)(q:List yRT)(hl:l.small)(hq:∀t∈q,t.small)(hql:q.length<=1000):qB prg 318 [.agg (l.enc.map .c),.c (.sl 2 (q.map yRT.enc))] (.c (.sl 1 ((sQ l q).map kC))):=by
 refine dB yqc (goQ_ ?_);refine aA (dV l hl) ?_;cases h1:lF l with
 |false=>simp -dsimp;simp[sQ,h1]
 |true=>
 have h8:l.yRY.length<=8:=by
  have h1':=h1;simp only[lF,zad]at h1';rcases zaq 8 l.yRY.length with e|e
  .have:=yg8 e;rw[this]at h1';simp at h1'
  .exact e
 have hb:sQ l q=(aS l q (yau q) (yrO (yau q)) (yrO (yau q))).2:=by simp only[sQ,h1,if_true]
 rw[hb];obtain⟨n,hn⟩:∃n,yau q=n:=⟨_,rfl⟩;have hnl:n<=q.length/\n<=8:=by rw[<-hn];unfold yau;omega
 obtain⟨ht,ht2⟩:=yC9 hnl.2;rw[hn];have hmn:(if(8:Int)<(q.length:Int)then(8:Int)else(q.length:Int))=(n:Int):=by rw[<-hn];unfold yau;split<;>omega
 obtain⟨top,htop⟩:∃top,yrO n=top:=⟨_,rfl⟩;rw[htop]at ht ht2;rw[htop];have hi0:yy4 1 (n:Int)-1=((top:Nat):Int):=by omega
 refine yaed hmn hi0 ?_
 refineλhlen=>⟨by unfold inI;omega,?_⟩
 refine yX2 (λk=>k<=top) (λk=>xC [(1,.c (.sl 2 (q.map yRT.enc))),(2,.box 2 0),(5,.own 13 1 (aS l q n top k).2.length),(6,.c (.i (aS l q n top k).1)),(7,.c (.i n)),(8,.c (.i ((top-k:Nat):Int)))] [(2,.box (l.enc.map .c)),(13,.row 1 ((aS l q n top k).2.map kC))]) (λk=>top-k) (by apply aB<;>simp[aS]) ?_
 rintro k hk
 obtain⟨hB1,hB2,hB3⟩:=ykZ (l:=l) (top:=top) hq hnl.1 hnl.2 k;have hsuc:aS l q n top (k+1)=ygf l q n (aS l q n top k) ((top-k:Nat):Int):=rfl;obtain⟨B,hBe⟩:∃B,aS l q n top k=B:=⟨_,rfl⟩;rw[hBe]at hB1 hB2 hB3 hsuc|-;obtain⟨c,hc⟩:∃c,top-k=c:=⟨_,rfl⟩;rw[hc]at hsuc|-;rcases zaq k top with klt|kge
 .have c0:((0:Int)<(c:Int))=True:=eq_true (by omega);have c0':(0<c)=True:=eq_true (by omega);refine yaed c0 c0' ?_;refine⟨by omega,?_⟩;refine yX2 (λi=>i<=n) (λi=>xC [(1,.c (.sl 2 (q.map yRT.enc))),(2,.box 2 0),(5,.own 13 1 B.2.length),(6,.c (.i B.1)),(7,.c (.i n)),(8,.c (.i c)),(9,.own 28 2 (l.yRY.length+(xF c n i).length)),(10,.own 32 1 (xF c n i).length),(11,.c (.i (yoR q (xF c n i)))),(12,.c (.i i))] [(2,.box (l.enc.map .c)),(13,.row 1 (B.2.map kC)),(28,.row 2 ((l.yRY++qAt q (xF c n i)).map yRT.enc)),(32,.row 1 ((xF c n i).map kC))]) (λi=>n-i) (by apply aB<;>simp[xF,qAt,yoR]) ?_
  rintro i hi
  have hpl:(xF c n i).length<=i:=ym9;have hps:=yq3 (c:=c) (n:=n) (k:=i);have hql2:(qAt q (xF c n i)).length=(xF c n i).length:=by simp[qAt]
  rcases zaq i n with ilt|ige
  .obtain⟨t,htq⟩:∃t,q[i]?=some t:=⟨_,zab (by omega)⟩;have gt:=(zaa.1 htq).2;have iq:i<q.length:=by omega
   have sm:=hq t (zac htq);have i0:((i:Int)<(n:Int))=True:=eq_true (by omega);have bt:=yDj sm;have bq:=yxJ hq (xF c n i) λx hx=>by have:=yb5 hx;omega
   have nneg:(0:Int)<=(n:Int)-1-i:=by omega
   refine yaff i0 ilt htq gt iq ?_;refine⟨by unfold inI;omega,by unfold inI;omega,by omega,λhbt=>?_,λhbt=>?_⟩
   .rw[if_pos (show ytJ (c:Int) n i=true from decide_eq_true hbt)]at hps;have e1:=yDV (l:=xF c n i) htq;have e2:=ygs (l:=xF c n i) htq;rw[<-hps]at e1 e2;have e3:(xF c n (i+1)).length=(xF c n i).length+1:=by rw[hps,zah,zaY]
    refine⟨by omega,by omega,by omega,?_⟩;refine yYp (yaG t sm) (goQ_ ?_)
    refineλ_=>⟨by unfold inI;unfold yx6 at bt;omega,by unfold inI;omega,i+1,ilt,by omega,?_⟩
    have hpm:(xF c n (i+1)).map kC=(xF c n i).map kC++[[C.i i]]:=by rw[hps];simp[kC]
    have hln:l.yRY.length+(qAt q (xF c n i)).length+1=l.yRY.length+((xF c n i).length+1):=by omega
    apply aB<;>simp[e1,e2,e3,hpm,hln,yx6]
   .rw[if_neg (show¬ytJ (c:Int) n i=true fromλh=>hbt (of_decide_eq_true h))]at hps;refine⟨by unfold inI;omega,i+1,ilt,by omega,?_⟩;apply aB<;>simp[hps]
  .obtain rfl:i=n:=by omega
   refine goQ_ ?_;have hsmq:=yg0 hq (l:=xF c i i) λx hx=>by have:=yb5 hx;omega
   have hF:=yX (l.yRY++qAt q (xF c i i)) l ⟨by rw[zah];omega,λy hy=>by
    rcases zaj.1 hy with e|e
    .exact hl.2 y e
    .exact hsmq y e⟩
   rw[zaB]at hF;have hpb:=yxJ hq (xF c i i) λx hx=>by have:=yb5 hx;omega
   unfold ygf at hsuc;have hqe:oO l.Length l.Width (l.yRY++qAt q (xF c i i))=true->yoR q (xF c i i)=yai q (xF c i i):=λh=>yIf (yHS h);have ek:((top-(k+1):Nat):Int)=(c:Int)-1:=by omega
   have htk:List.take (l.yRY.length+(xF c i i).length) (l.yRY.map yRT.enc++(qAt q (xF c i i)).map yRT.enc)=l.yRY.map yRT.enc++(qAt q (xF c i i)).map yRT.enc:=List.take_of_length_le (by simp[hql2]);refine⟨λhm=>?_,λhm=>?_⟩
   .have hm':=hm;refine mD (hF) (by simp -dsimp[jA,htk]) rfl ?_;cases hf:oO l.Length l.Width (l.yRY++qAt q (xF c i i))with
    |true=>
     rw[hqe hf]at hm|-;rw[if_pos ⟨hm,hf⟩]at hsuc;refine goQ_ ?_;refine⟨by unfold inI;omega,k+1,klt,by omega,?_⟩;refine yyv 13 32 ?_;apply aB<;>simp[hsuc,ek,AV.ren,AV.yzO,AV.ytG,Obj.ren,yas]
    |false=>
     rw[if_neg (by rw[hf];simp)]at hsuc;refine goQ_ ?_;refine⟨by unfold inI;omega,k+1,klt,by omega,?_⟩;apply aB<;>simp[hsuc,ek]
   .rw[if_neg (λh=>by have:=hqe h.2;omega)]at hsuc;refine⟨by unfold inI;omega,k+1,klt,by omega,?_⟩;apply aB<;>simp[hsuc,ek]
 .obtain rfl:k=top:=by omega
  have c0:c=0:=by omega
  subst c0;refine yafw hBe ?_;exact(List.take_of_length_le (by simp)).symm
def yjO(w:yR8)(ps:List Nat)(hp:∀i∈ps,i<w.Calls.length)(hl:ps.length<=1000)(hc:w.Calls.length<=1048576):qB prg 319 [.c (.sl 4 (w.Calls.map yR4.enc)),.c (.sl 1 (ps.map kC))] (.c (.sl 2 ((tC w ps).map yRT.enc))):=by
 refine dB yo8 (goQ_ ?_);refine yX2 (λk=>k<=ps.length) (λk=>xC [(0,.c (.sl 4 (w.Calls.map yR4.enc))),(1,.c (.sl 1 (ps.map kC))),(5,.own 7 2 k),(6,.c (.i k))] [(7,.row 2 ((tC w (ps.take k)).map yRT.enc))]) (λk=>ps.length-k) (by apply aB<;>simp[tC]) ?_
 rintro k hk
 rcases yX1 k ps with⟨klt,i,hi⟩|kge
 .have gi:=(zaa.1 hi).2;have il:=hp i (zac hi);obtain⟨c,hcc⟩:∃c,w.Calls[i]?=some c:=⟨_,zab il⟩;have gc:=(zaa.1 hcc).2;have hca:aO w i=c.yRT:=by simp[aO,zaf,hcc]
  have hs2:(tC w (ps.take (k+1))).map yRT.enc=(tC w (ps.take k)).map yRT.enc++[[C.b c.yRT.Up,C.sl 1 (c.yRT.Rows.map jE)]]:=by
   rw[zao,hi];simp[tC,hca]
  have hln:(tC w (ps.take k)).length=k:=by simp[tC];omega
  simp -dsimp[hi,gi,klt,fC klt,kC,hcc,gc,il,hln];intro hlen;refine⟨by omega,gB klt hlen,k+1,klt,by omega,?_⟩;apply aB<;>simp[hs2]
 .obtain rfl:k=ps.length:=by omega
  have hln:(tC w ps).length=ps.length:=by simp[tC]
  have htk:List.take ps.length ((tC w ps).map yRT.enc)=(tC w ps).map yRT.enc:=List.take_of_length_le (by simp[tC]);exact yafJ (aG kge) htk
def yiz(x:yRW)(k:Int)(hl:x.small):nI prg 207 [.agg (x.enc.map .c),.c (.i k)] (.c (.ot 4 ((yK x k).map yR4.iD))):=by
 refine fF yqe (goQ_ ?_);refine aA (yc1 x hl) ?_;cases h:rC x with
 |false=>simp -dsimp -implicitDefEqProofs;simp[yHy h]
 |true=>
 have hwl:=hl.2.2.1.1;refine goQ_ ?_;intro hlen;refine⟨by unfold inI;omega,?_⟩;refine aA (bC k 0 (x.yRX.length-1)) ?_;cases hin:inRange k 0 (x.yRX.length-1)with
 |false=>
  refine goQ_ ?_;have:¬(0<=k/\k<=x.yRX.length-1):=λh=>by rw[aC.2 h]at hin;cases hin
  rcases zcq k 0 with h0|h0
  .simp[yGo h0]
  .simp[yHu (x:=x) (k:=k) (by omega)]
 |true=>
 have hr:=aC.1 hin;obtain⟨n,rfl⟩:=zbI hr.1;obtain⟨w,a,b,hw⟩:=yKm (k:=n) h (by omega);have hs:yR8.small w:=hl.2.2.1.2 w (zac hw.hw);rw[ytL h hw];have hrl:=hl.1.1;obtain⟨hw,ha,hb,hok,hwl2⟩:=hw;have kw:=(zaa.1 hw).1;have ka:=(zaa.1 ha).1;have kb:=(zaa.1 hb).1;have gw:=(zaa.1 hw).2;have ga:=(zaa.1 ha).2;have gb:=(zaa.1 hb).2;obtain⟨q1,q2⟩:=yBO hok;have la:=kM a;have lb:=kM b;have hc1:=hs.2.2.1;refine yaeV hw gw kw (fC kw) ?_;refine qA (ι:=Nat) (λi=>i<=w.Calls.length) (λi=>xC [(1,.c (.i n)),(2,.box 2 0),(5,.own 10 4 (ybX a b w i).length),(6,.box 6 0),(7,.c (.i i))] [(2,.box (x.enc.map .c)),(6,.box (w.enc.map .c)),(10,.tr 4 0 ((ybX a b w i).map yR4.iD))]) (λi=>w.Calls.length-i) 0 (by simp) (by refine yIH 10 (k:=4) (rows:=[]) (by simp) ?_;apply aB<;>simp[Obj.leO,ybX]) ?_
 rintro i hi
 have hil:=ytq (a:=a) (b:=b) (w:=w) (k:=i);rcases yX1 i w.Calls with⟨hlt,c,hc⟩|hge
 .have g1:=(zaa.1 hc).2;have hcs:=hs.2.2.2 c (zac hc);have e1:=yqr (a:=a) (b:=b) hc;have hd:=ydq c.yRT;have fin:∀{z:Int},z=ynb a b w c->ybp a b w c=(decide (oH c.yRT<=z)&&oO w.yR0.Length w.yR0.Width [c.yRT]):=λh=>by rw[h];rfl
  refine yafK hc g1 hlt (fC hlt) ha ga ka (fC ka) ?_;intro hlen2;refine ypC (dN a) (goQ_ ?_);refine⟨by unfold inI;omega,?_⟩;refine⟨λhu=>?_,λhu=>?_⟩
  .have fin:=fin (z:=kD b-w.yR0.ySj) (by unfold ynb;rw[if_pos hu]);refine⟨by unfold inI;omega,by omega,by omega,yaed hb gb ?_⟩;refine ypC (dN b) (goQ_ ?_);refine⟨by unfold inI;omega,?_⟩;refine mD (ybk c.yRT hcs) (by simp[hu]) rfl (goQ_ ?_);refine⟨λhd1=>?_,λhd1=>?_⟩
   .have hff:=yX [c.yRT] w.yR0 (yyG hcs);refine mD (hff) (by simp[hu]) rfl ?_;cases hf:oO w.yR0.Length w.yR0.Width [c.yRT]with
    |true=>
     have e2:ybp a b w c=true:=by rw[fin];simp[hd1,hf]
     rw[e2]at e1;refine goQ_ ?_;refine pJ (ypY c.yRT hcs) (by simp[hu]) (dP (yRT.aF c.yRT)) (by simp[fD]) ?_;simp -dsimp -implicitDefEqProofs [hc,g1,hlt,fC hlt,iW,jA];refine⟨by omega,gB hlt hlen2,i+1,hlt,by omega,?_⟩;apply aB<;>simp[Obj.leO,e1,hu]
    |false=>
     have e2:ybp a b w c=false:=by rw[fin];simp[hf]
     rw[e2]at e1;refine goQ_ ?_;refine⟨gB hlt hlen2,i+1,hlt,by omega,?_⟩;apply aB<;>simp[Obj.leO,e1]
   .have e2:ybp a b w c=false:=by
     have:¬oH c.yRT<=kD b-w.yR0.ySj:=by omega
     rw[fin];simp[this]
    rw[e2]at e1;refine⟨gB hlt hlen2,i+1,hlt,by omega,?_⟩;apply aB<;>simp[Obj.leO,e1]
  .have fin:=fin (z:=kD a-w.yR0.ySi) (by unfold ynb;rw[if_neg (by simp[hu])]);refine mD (ybk c.yRT hcs) (by simp[hu]) rfl (goQ_ ?_);refine⟨λhd1=>?_,λhd1=>?_⟩
   .have hff:=yX [c.yRT] w.yR0 (yyG hcs);refine mD (hff) (by simp[hu]) rfl ?_;cases hf:oO w.yR0.Length w.yR0.Width [c.yRT]with
    |true=>
     have e2:ybp a b w c=true:=by rw[fin];simp[hd1,hf]
     rw[e2]at e1;refine goQ_ ?_;refine pJ (ypY c.yRT hcs) (by simp[hu]) (dP (yRT.aF c.yRT)) (by simp[fD]) ?_;simp -dsimp -implicitDefEqProofs [hc,g1,hlt,fC hlt,iW,jA];refine⟨by omega,gB hlt hlen2,i+1,hlt,by omega,?_⟩;apply aB<;>simp[Obj.leO,e1,hu]
    |false=>
     have e2:ybp a b w c=false:=by rw[fin];simp[hf]
     rw[e2]at e1;refine goQ_ ?_;refine⟨gB hlt hlen2,i+1,hlt,by omega,?_⟩;apply aB<;>simp[Obj.leO,e1]
   .have e2:ybp a b w c=false:=by
     have:¬oH c.yRT<=kD a-w.yR0.ySi:=by omega
     rw[fin];simp[this]
    rw[e2]at e1;refine⟨gB hlt hlen2,i+1,hlt,by omega,?_⟩;apply aB<;>simp[Obj.leO,e1]
 .refine yafw (aG hge) ?_;intro _;rw[ys9 hge];exact jA.symm
def giv(b:Prop)[Decidable b](k:Nat)(rows:List (List C))(id:Nat):AV:=if b then .c (.sl k rows)else .own id k rows.length
def yei(b:Prop)[Decidable b](k:Nat)(rows:List (List C)):Obj:=if b then .none else .row k rows
set_option maxHeartbeats 8000000 in
set_option maxRecDepth 40000 in
def yBY(x:yRW)(k:Nat)(hs:x.small)(F:ySq x k)(hch:chosen x k=[]):qB prg 214 [.elt x.enc,.c (.i k),.agg ((dR x.yRV (jM x k)).enc.map .c)] (.c (.b false)):=by
 have kw:=F.kw;have sw:=F.sw;have c24:=F.calls;have hw:=yi4 F.kw;unfold chosen places at hch;generalize dR x.yRV (jM x k)=r at *;generalize dW x.yRX k=w at *;have gw:=(zaa.1 hw).2;have hO:=yiB w.Calls x.Time sw.2.2;have hol:=ygT (list:=w.Calls) (now:=x.Time);have hlt:=yjA (list:=w.Calls) (now:=x.Time);generalize kS w.Calls x.Time=o at *;refine dB yje ?_;simp -dsimp -implicitDefEqProofs [ydW,hw,gw,kw,fC kw];refine yYt hO (goQ_ ?_);refine qA (ι:=Nat) (λj=>j<=o.length) (λj=>xC [(0,.elt x.enc),(1,.c (.i k)),(5,.box 5 0),(6,.c (.b false)),(7,.elt w.enc),(8,.c (.sl 1 (o.map kC))),(9,giv (j=o.length) 1 ((placesTo w r o j).map kC) 33),(10,.c (.i j))] [(5,.box (r.enc.map .c)),(33,yei (j=o.length) 1 ((placesTo w r o j).map kC))]) (λj=>o.length-j) 0 (by simp) ?_ ?_
 .by_cases h0:0=o.length
  .refine yk5 9 (id:=33) (k:=1) (n:=0) (y:=.c (.sl 1 [])) (by simp) (by simp[out1]) ?_;apply aB<;>simp[Obj.leO,hw,giv,yei,<-h0,placesTo]
  .have h1:(0=o.length)=False:=eq_false h0;apply aB<;>simp[Obj.leO,hw,giv,yei,h1,placesTo]
 rintro j hj
 have hpl:=ybs (w:=w) (r:=r) (o:=o) (j:=j);rcases zaq j o.length with jlt|jge
 .have jne:(j=o.length)=False:=eq_false (by omega);obtain⟨i,hi⟩:∃i,o[j]?=some i:=⟨_,zab jlt⟩;have gi:=(zaa.1 hi).2;have il:=hlt i (zac hi);obtain⟨c,hc⟩:∃c,w.Calls[i]?=some c:=⟨_,zab il⟩;have gc:=(zaa.1 hc).2;have hca:aO w i=c.yRT:=by simp[aO,zaf,hc]
  have hct:c.yRT.small:=sw.2.2.2 c (zac hc);have hps:=yfE (w:=w) (r:=r) hi;have hM:=yfK w.yR0 r c.yRT sw.1 hct;have hmc:lJ w.yR0 r c.yRT=bY w r i:=by unfold bY;rw[hca]
  rw[hmc]at hM;simp -dsimp -implicitDefEqProofs [hi,gi,fC jlt,jlt,kC,hc,gc,il,giv,yei,jne];intro hlen;refine yYs hM ?_;cases hm:bY w r i with
  | true=>
   rw[hm,if_pos rfl]at hps;have e4:(placesTo w r o (j+1)).map kC=(placesTo w r o j).map kC++[[C.i i]]:=by rw[hps];simp[kC]
   have e3:(placesTo w r o (j+1)).length=(placesTo w r o j).length+1:=by rw[hps,zah,zaY]
   simp -dsimp -implicitDefEqProofs [hi,gi,jlt,kC,giv,yei,jne];refine⟨by omega,gB jlt hlen,j+1,jlt,by omega,?_⟩
   by_cases h1:j+1=o.length
   .have h2:(j+1=o.length)=True:=eq_true h1;refine yk5 9 (id:=33) (k:=1) (n:=(placesTo w r o j).length+1) (y:=.c (.sl 1 ((placesTo w r o (j+1)).map kC))) (by simp) (by simp[out1,e4,giv,jne];exact(List.take_of_length_le (by simp)).symm) ?_;apply aB<;>simp[Obj.leO,hw,giv,yei,h2,e4]
   .have h2:(j+1=o.length)=False:=eq_false h1;apply aB<;>simp[Obj.leO,hw,giv,yei,h2,e4,e3]
  | false=>
   rw[hm,if_neg zaH]at hps;refine goQ_ ?_;refine⟨gB jlt hlen,j+1,jlt,by omega,?_⟩;rw[hps]
   by_cases h1:j+1=o.length
   .have h2:(j+1=o.length)=True:=eq_true h1;refine yk5 9 (id:=33) (k:=1) (n:=(placesTo w r o j).length) (y:=.c (.sl 1 ((placesTo w r o j).map kC))) (by simp[giv,jne]) (by simp[out1,yei,jne,jA]) ?_;apply aB<;>simp[Obj.leO,hw,giv,yei,h2,jne]
   .have h2:(j+1=o.length)=False:=eq_false h1;apply aB<;>simp[Obj.leO,hw,giv,yei,h2,jne]
 .obtain rfl:j=o.length:=by omega
  have hPm:∀i∈placesTo w r o o.length,i<w.Calls.length:=λi hi=>hlt i (yhn hi).1;generalize placesTo w r o o.length=P at *
  have hqs:∀t∈tC w P,t.small:=λt ht=>by
   obtain⟨i,_,rfl⟩:=zaM.1 ht;exact ya9 sw.2.2 i
  have hT:=yjO w P hPm (by omega) (by omega);have hB:=ykR w.yR0 (tC w P) sw.1 hqs (by rw[ydr];omega);rw[hch]at hB;simp -dsimp -implicitDefEqProofs [aG jge,giv,yei];intro _;refine yYt hT (goQ_ ?_);refine yYt hB ?_;exact goE_
def ytM(l:yR0)(r:Reach)(t:yRT)(hl:l.small)(ht:t.small):qB prg 320 [.agg (l.enc.map .c),.agg (r.enc.map .c),.agg (t.enc.map .c)] (.tup [.agg ((xH l r t).1.enc.map .c),.c (.b (xH l r t).2)]):=by
 have no:(lJ l r t&&oO l.Length l.Width (l.yRY++[t]))=false->xH l r t=(l,false):=λh=>by simp only[xH,h];rfl
 have hll:=hl.1;have hco:=yxj l hl;simp only[lkI]at hco;refine dB ypp (goQ_ ?_);refine qU hco (by simp) rfl (by simp[fD]) (goT_ ?_);refine aA (yfK l r t hl ht) ?_;cases h1:lJ l r t with
 |false=>rw[no (by simp[h1])];simp -dsimp -implicitDefEqProofs [jA]
 |true=>
 have h8:l.yRY.length<=8:=by
  have h1':=h1;simp only[lJ,lF,zad]at h1';rcases zaq 8 l.yRY.length with e|e
  .have:=yg8 e;rw[this]at h1';simp at h1'
  .exact e
 refine goT_ ?_;refine bI (ybP t ht) ?_;simp -dsimp -implicitDefEqProofs [iW];refine⟨by omega,?_⟩;have htk:List.take (l.yRY.length+1) (l.yRY.map yRT.enc++[[C.b t.Up,C.sl 1 (t.Rows.map jE)]])=l.yRY.map yRT.enc++[[C.b t.Up,C.sl 1 (t.Rows.map jE)]]:=List.take_of_length_le (by simp)
 have hF:=yX (l.yRY++[t]) l ⟨by rw[zah,zaY];omega,λy hy=>by
  rcases zaj.1 hy with e|e
  .exact hl.2 y e
  .rw[zan.1 e];exact ht⟩
 rw[zaB]at hF;refine mD (hF) (by simp -dsimp -implicitDefEqProofs [htk]) rfl ?_;cases h2:oO l.Length l.Width (l.yRY++[t])with
 |false=>
  rw[no (by simp[h2])];refine goQ_ ?_;refine dD (yb7 l hl) ?_;exact goE_
 |true=>
 have e:xH l r t=(l.yt1 (l.yRY++[t]),true):=by simp[xH,h1,h2]
 rw[e];exact yafA htk
set_option maxRecDepth 20000 in
def yu6(l:yR0)(r:Reach)(hl:l.small):qB prg 212 [.agg (l.enc.map .c),.agg (r.enc.map .c)] (.tup [.agg ((sK l r).1.enc.map .c),.agg ((sK l r).2.1.enc.map .c),.c (.b (sK l r).2.2)]):=by
 have no:leaver l r=none->sK l r=(l,⟨false,[]⟩,false):=λh=>by unfold sK;rw[h]
 have hll:=hl.1;refine dB ypq (goQ_ ?_);refine dD (yb7 l hl) (goQ_ ?_);refine aA (dV l hl) ?_;cases h1:lF l with
 |false=>rw[no (by simp[leaver,yh,h1])];simp -dsimp -implicitDefEqProofs
 |true=>
 refine goQ_ ?_;refine aA (qN r) ?_;cases h2:xE r with
 |false=>rw[no (by simp[leaver,yh,h2])];simp -dsimp -implicitDefEqProofs
 |true=>
 by_cases h4:l.Gate=0
 .rw[no (by simp[leaver,yh,h4])];simp -dsimp -implicitDefEqProofs [h4]
 have hc:yh l r=true:=by simp[yh,h1,h2,h4]
 have he:leaver l r=l.yRY.findIdx? (leaves l r):=by simp[leaver,hc]
 have hg:=(qW h1).gate;have hg12:l.Gate=1\/l.Gate=2:=by omega
 have h8:l.yRY.length<=8:=by
  have h1':=h1;simp only[lF,zad]at h1';rcases zaq 8 l.yRY.length with e|e
  .have:=yg8 e;rw[this]at h1';simp at h1'
  .exact e
 obtain⟨R,hR⟩:∃R,sK l r=R:=⟨_,rfl⟩;rw[hR];refine yafw h4 ?_;refine qA (ι:=Nat) (λi=>i<=l.yRY.length/\∀(j:Nat) (t:yRT),j<i->l.yRY[j]?=some t->leaves l r t=false) (λi=>xC [(2,.box 2 0),(3,.box 3 0),(4,.box 4 0),(5,.box 5 0),(6,.c (.b false)),(7,.box 7 0),(8,.c (.i i))] [(2,.box (l.enc.map .c)),(3,.box (r.enc.map .c)),(4,.box [.c (.i 0),.c (.i 0),.c (.i 0),.c (.i 0),.c (.i 0),.c (.i 0),.c (.i 0),.c (.i 0),.c (.i 0),.nil 2]),(5,.box [.c (.b false),.nil 1]),(7,.box (l.enc.map .c))]) (λi=>l.yRY.length-i) 0 ⟨zbA _,λj t h=>by omega⟩ (by apply aB<;>simp) ?_
 rintro i ⟨hi,hno⟩
 rcases yX1 i l.yRY with⟨ilt,t,ht⟩|ige
 .have gt:=(zaa.1 ht).2;have sm:=hl.2 t (zac ht)
  have next:leaves l r t=false->∀(j:Nat) (t:yRT),j<i+1->l.yRY[j]?=some t->leaves l r t=false:=by
   intro h0 j t' hj ht';rcases zaq j i with e|e
   .exact hno j t' e ht'
   .obtain rfl:j=i:=by omega
    rw[ht]at ht';cases ht';exact h0
  have hdp:ylU l r t=decide (oH t<=kD r-yeb l l.Gate):=yCv hg12;have hlv:leaves l r t=((t.Up==decide (l.Gate=1))&&ylU l r t):=by rw[hdp];rfl
  refine yaeV ht gt ilt (fC ilt) ?_;intro hlen;refine⟨λhu=>?_,λhu=>?_⟩
  rotate_left
  .refine⟨gB ilt hlen,i+1,⟨ilt,next (by simp[leaves,hu])⟩,by omega,?_⟩;apply aB<;>simp
  refine lC (yhL l r t h1 sm) ?_;cases hd:ylU l r t with
  |false=>
   refine goQ_ ?_;refine⟨gB ilt hlen,i+1,⟨ilt,next (by rw[hlv,hd];simp)⟩,by omega,?_⟩;apply aB<;>simp
  | true=>
   have hyes:leaves l r t=true:=by rw[hlv,hd];simp[hu]
   have el:leaver l r=some i:=by
    rw[he,zbG];refine⟨ilt,by rw[gt];exact hyes,λj hj=>?_⟩;rw[hno j _ hj (zab (by omega))];exact zaH
   have eR:R=(l.yt1 (yfI l.yRY i),t,true):=by
    rw[<-hR];unfold sK;rw[el];simp only[zaf,ht,zbc]
   subst eR;refine yaeV ht gt ilt (fC ilt) ?_;refine⟨hi,by omega,by unfold inI;omega,by omega,by omega,by omega,?_⟩;rw[List.take_of_length_le (by simp)];simp[yfI]
 .obtain rfl:i=l.yRY.length:=by omega
  have e:leaver l r=none:=by
   rw[he,zce];intro t ht;obtain⟨j,hj⟩:=zbn.1 ht;exact hno j t (zaa.1 hj).1 hj
  rw[no e]at hR;subst hR;exact yafA (aG ige)
def wC(v:yR8):List C:=[.i v.yR0.Length,.i v.yR0.Width,.i v.yR0.ySi,.i v.yR0.ySj,.i v.yR0.Base,.i v.yR0.Area,.i v.yR0.ySs,.i v.yR0.ySn,.i v.yR0.Gate,.sl 2 (v.yR0.yRY.map yRT.enc),.i v.ySp.ySu,.i v.ySp.Open,.i v.ySp.Step,.i v.ySp.ySy,.i v.ySp.Width,.i v.Rule.Low,.i v.Rule.High,.i v.Rule.ySx,.sl 2 (v.Pauses.map ySf.enc),.b v.Turn.Up,.i v.Turn.Count,.ow 4 (v.Calls.map yR4.enc)]
def yLy(v:yR8):dO (wC v)=some v.enc:=rfl
def ytx(x:yRW)(k:Nat)(ts:List yRT):yRW:=⟨x.Time,x.yRV,x.ySl,x.yRX,x.yR3,x.yR9,x.ySd,x.yRZ,aU x ts,x.yR1++nK x k ts,x.Start,x.In,x.Out⟩
def bD(x:yRW)(bk:List ySb)(np:Nat):List AV:=[.c (.i x.Time),.own 20000 3 x.yRV.length,.c (.sl 2 (x.ySl.map Way.enc)),.own 40000 22 x.yRX.length,.own 50000 1 x.yR3.length,.c (.sl 2 (x.yR9.map yRT.enc)),.c (.sl 1 (x.ySd.map qC)),.c (.i x.yRZ.Base),.c (.i x.yRZ.ySe),.c (.sl 1 (x.yRZ.yR5.map qC)),.c (.sl 1 (x.yRZ.yR7.map qC)),.c (.sl 5 (bk.map ySb.enc)),.own 130000 4 np,.c (.i x.Start),.c (.i x.In),.c (.i x.Out)]
def yHz{l:yR0}{r:Reach}{t:yRT}(h:lF l=true):lF (xH l r t).1=true:=by
 unfold xH;split
 .rename_i hc;simp only[zad]at hc
  have hd:Distinct (l.yRY++[t])=true:=by
   have:=hc.2;simp only[oO,zad]at this;exact this.1.1
  simp only[lF,zad]at h;simp only[lF,yR0.yt1,zad];exact⟨h.1,hd⟩
 .exact h
def ywV{r:Reach}:∀(ts:List yRT) (l:yR0),lF l=true->lF (xR r l ts)=true
 |[],l,h=>h
 |t::ts,l,h=>ywV ts (xH l r t).1 (yHz h)
set_option maxHeartbeats 8000000 in
set_option maxRecDepth 40000 in
def yBV(x:yRW)(k:Nat)(hs:x.small)(F:ySq x k)(mr:List (List C))(hmr:mr.length=x.yR3.length)(hI:(dW x.yRX k).yR0.yRY=[])(hch:chosen x k≠[]):
 InF prg 214 (.c (.bx (x.qX (bM x.yRX) mr))) (.c (.bx ((ytx x k (yiZ x k)).qX ((bM x.yRX).set k (wC (yj x k))) mr))) [.c (.i k),.agg ((dR x.yRV (jM x k)).enc.map .c)] (.c (.b true)):=by
 have kw:=F.kw;have sw:=F.sw;have c24:=F.calls;have hw:=yi4 F.kw;have hlok:=F.lok;obtain⟨R,hR⟩:∃R,(ytx x k (yiZ x k)).qX ((bM x.yRX).set k (wC (yj x k))) mr=R:=⟨_,rfl⟩;rw[hR];unfold yj yyy yiZ chosen places at hR;unfold chosen places at hch;generalize dR x.yRV (jM x k)=r at *;generalize dW x.yRX k=w at *;have aw:=yt5 hw;simp only[yR8.enc]at aw;have gaw:=(zaa.1 aw).2;have hwl:=ygI (ws:=x.yRX);have hO:=yiB w.Calls x.Time sw.2.2;have hol:=ygT (list:=w.Calls) (now:=x.Time);have hlt:=yjA (list:=w.Calls) (now:=x.Time);generalize kS w.Calls x.Time=o at *;refine ycN yje (by simp) (by simp[yRW.qX]) rfl λhwf=>?_;simp -dsimp -implicitDefEqProofs [ydW,yRW.qX,aw,gaw,hwl,kw,fC kw];refine yYt hO (goQ_ ?_);refine qA (ι:=Nat) (λj=>j<=o.length) (λj=>xC [(0,.box 0 0),(1000000,.box 0 0),(1,.c (.i k)),(5,.box 5 0),(6,.c (.b false)),(7,.row 40000 22 k 0),(8,.c (.sl 1 (o.map kC))),(9,giv (j=o.length) 1 ((placesTo w r o j).map kC) 33),(10,.c (.i j))] [(0,.box (bD x x.Book x.yR1.length)),(5,.box (r.enc.map .c)),(20000,.row 3 (x.yRV.map Reach.enc)),(40000,.tr 22 0 (bM x.yRX)),(50000,.tr 1 0 mr),(130000,.row 4 (x.yR1.map yR2.enc)),(33,yei (j=o.length) 1 ((placesTo w r o j).map kC))]) (λj=>o.length-j) 0 (by simp) ?_ ?_
 .by_cases h0:0=o.length
  .refine yk5 9 (id:=33) (k:=1) (n:=0) (y:=.c (.sl 1 [])) (by simp) (by simp[out1]) ?_;apply aB<;>simp[Obj.leO,aw,gaw,hwl,hmr,bD,giv,yei,<-h0,placesTo]
  .have h1:(0=o.length)=False:=eq_false h0;apply aB<;>simp[Obj.leO,aw,gaw,hwl,hmr,bD,giv,yei,h1,placesTo]
 rintro j hj
 have hpl:=ybs (w:=w) (r:=r) (o:=o) (j:=j);rcases zaq j o.length with jlt|jge
 .have jne:(j=o.length)=False:=eq_false (by omega);obtain⟨i,hi⟩:∃i,o[j]?=some i:=⟨_,zab jlt⟩;have gi:=(zaa.1 hi).2;have il:=hlt i (zac hi);obtain⟨c,hc⟩:∃c,w.Calls[i]?=some c:=⟨_,zab il⟩;have gc:=(zaa.1 hc).2;have hca:aO w i=c.yRT:=by simp[aO,zaf,hc]
  have hct:c.yRT.small:=sw.2.2.2 c (zac hc);have hps:=yfE (w:=w) (r:=r) hi;have hM:=yfK w.yR0 r c.yRT sw.1 hct;have hmc:lJ w.yR0 r c.yRT=bY w r i:=by unfold bY;rw[hca]
  rw[hmc]at hM;simp -dsimp -implicitDefEqProofs [hi,gi,fC jlt,jlt,kC,hc,gc,il,giv,yei,jne,aw,gaw,hwl,kw];intro hlen;refine yYs hM ?_;cases hm:bY w r i with
  | true=>
   rw[hm,if_pos rfl]at hps;have e4:(placesTo w r o (j+1)).map kC=(placesTo w r o j).map kC++[[C.i i]]:=by rw[hps];simp[kC]
   have e3:(placesTo w r o (j+1)).length=(placesTo w r o j).length+1:=by rw[hps,zah,zaY]
   simp -dsimp -implicitDefEqProofs [hi,gi,jlt,kC,giv,yei,jne];refine⟨by omega,gB jlt hlen,j+1,jlt,by omega,?_⟩
   by_cases h1:j+1=o.length
   .have h2:(j+1=o.length)=True:=eq_true h1;refine yk5 9 (id:=33) (k:=1) (n:=(placesTo w r o j).length+1) (y:=.c (.sl 1 ((placesTo w r o (j+1)).map kC))) (by simp) (by simp[out1,e4,giv,jne];exact(List.take_of_length_le (by simp)).symm) ?_;apply aB<;>simp[Obj.leO,aw,gaw,hwl,hmr,bD,giv,yei,h2,e4]
   .have h2:(j+1=o.length)=False:=eq_false h1;apply aB<;>simp[Obj.leO,aw,gaw,hwl,hmr,bD,giv,yei,h2,e4,e3]
  | false=>
   rw[hm,if_neg zaH]at hps;refine goQ_ ?_;refine⟨gB jlt hlen,j+1,jlt,by omega,?_⟩;rw[hps]
   by_cases h1:j+1=o.length
   .have h2:(j+1=o.length)=True:=eq_true h1;refine yk5 9 (id:=33) (k:=1) (n:=(placesTo w r o j).length) (y:=.c (.sl 1 ((placesTo w r o j).map kC))) (by simp[giv,jne]) (by simp[out1,yei,jne,jA]) ?_;apply aB<;>simp[Obj.leO,aw,gaw,hwl,hmr,bD,giv,yei,h2,jne]
   .have h2:(j+1=o.length)=False:=eq_false h1;apply aB<;>simp[Obj.leO,aw,gaw,hwl,hmr,bD,giv,yei,h2,jne]
 .obtain rfl:j=o.length:=by omega
  have hPm:∀i∈placesTo w r o o.length,i<w.Calls.length:=λi hi=>hlt i (yhn hi).1;generalize placesTo w r o o.length=P at *
  have hqs:∀t∈tC w P,t.small:=λt ht=>by
   obtain⟨i,_,rfl⟩:=zaM.1 ht;exact ya9 sw.2.2 i
  have htl:(tC w P).length=P.length:=ydr;have hT:=yjO w P hPm (by omega) (by omega);have hB:=ykR w.yR0 (tC w P) sw.1 hqs (by rw[ydr];omega);obtain⟨hBm,hB8⟩:=yxH (l:=w.yR0) hqs;generalize sQ w.yR0 (tC w P)=B at *;have b0:(B=[])=False:=eq_false hch;have b1:((B.length:Int)=0)=False:=eq_false (by have:=zbf.2 hch;omega);simp -dsimp -implicitDefEqProofs [aG jge,giv,yei,aw,gaw,hwl,kw];intro _;refine yYt hT (yaed aw gaw ?_);refine yYt hB (yafq b0 b1 aw gaw hwl kw ?_)
  refineλhlenB hlenC=>⟨by omega,?_⟩
  have hP8:=ybs (w:=w) (r:=r) (o:=o) (j:=o.length);have hts:∀j,(qAt (tC w P) (B.take j)).length<=j:=λj=>by simp[qAt];omega
  have htm:∀j,∀t∈qAt (tC w P) (B.take j),t.small:=λj=>yg0 hqs λy hy=>hBm y (zas hy);have hset0:(bM x.yRX).set k w.enc=bM x.yRX:=by rw[yk6,show x.yRX.set k w=x.yRX from by rw[<-(zaa.1 hw).2,zdA]]
  refine qA (ι:=Nat) (λj=>j<=B.length) (λj=>xC [(0,.box 0 0),(1000000,.box 0 0),(1,.c (.i k)),(5,.box 5 0),(6,.c (.b false)),(7,.row 40000 22 k 0),(9,.c (.sl 1 (P.map kC))),(11,.c (.sl 1 (B.map kC))),(12,.own 83 1 w.Calls.length),(13,.c (.i j))] [(0,.box (bD x (aU x (qAt (tC w P) (B.take j))) (x.yR1.length+j))),(5,.box (r.enc.map .c)),(20000,.row 3 (x.yRV.map Reach.enc)),(40000,.tr 22 0 ((bM x.yRX).set k (rH w (xR r w.yR0 (qAt (tC w P) (B.take j)))).enc)),(50000,.tr 1 0 mr),(83,.row 1 ((gZ (List.replicate w.Calls.length false) ((B.map λc=>P[c]?.getD 0).take j)).map ypi)),(130000,.row 4 ((x.yR1++nK x k (qAt (tC w P) (B.take j))).map yR2.enc))]) (λj=>B.length-j) 0 (by simp) (by
   simp only[zdg,qAt,zcR,xR,List.foldl_nil,rH];rw[show(⟨w.yR0,w.ySp,w.Rule,w.Pauses,w.Turn,w.Calls⟩:yR8)=w from rfl,hset0];apply aB<;>simp[Obj.leO,aU,gZ,bD,nK,ypi,giv,yei,hwl,hmr]) ?_
  rintro j hj
  rcases yX1 j B with⟨jlt,c,hc⟩|jge2
  .have gc:=(zaa.1 hc).2;have cl:=hBm c (zac hc);rw[htl]at cl;obtain⟨p,hp⟩:∃p,P[c]?=some p:=⟨_,zab cl⟩;have gp:=(zaa.1 hp).2;have pl:=hPm p (zac hp);obtain⟨⟨t,sn,bo⟩,hq⟩:∃q,w.Calls[p]?=some q:=⟨_,zab pl⟩;have gq:=(zaa.1 hq).2;have hca:aO w p=t:=by simp[aO,zaf,hq]
   have htq:(tC w P)[c]?=some t:=by simp[tC,hp,hca]
   have tsm:t.small:=sw.2.2.2 _ (zac hq);have hb1:B.take (j+1)=B.take j++[c]:=by rw[zao,hc];rfl
   have hq1:qAt (tC w P) (B.take (j+1))=qAt (tC w P) (B.take j)++[t]:=by rw[hb1];exact ygs htq
   have hql:(qAt (tC w P) (B.take j)).length=j:=by simp[qAt];omega
   have hL1:=yqC (r:=r) (l:=w.yR0) (ts:=qAt (tC w P) (B.take j)) (t:=t);have hK1:=yqZ (x:=x) (ts:=qAt (tC w P) (B.take j)) (t:=t)
   have hG1:gZ (List.replicate w.Calls.length false) ((B.map λc=>P[c]?.getD 0).take (j+1))=(gZ (List.replicate w.Calls.length false) ((B.map λc=>P[c]?.getD 0).take j)).set p true:=by
    rw[<-zaV,<-zaV,hb1,zaB,zdN,yqA,hp];rfl
   have hgl:=yhN (g:=List.replicate w.Calls.length false) (is:=(B.map λc=>P[c]?.getD 0).take j);rw[zbq]at hgl;have hls:=yZ (r:=r) (qAt (tC w P) (B.take j)) w.yR0 1048 ⟨by rw[hI];simp,sw.1.2⟩ (htm j);have hbl:=ynk (x:=x) j (qAt (tC w P) (B.take j)) (hts j);have hpr:(nK x k (qAt (tC w P) (B.take (j+1)))).map yR2.enc=(nK x k (qAt (tC w P) (B.take j))).map yR2.enc++[[C.i x.Time,C.i k,C.b t.Up,C.sl 1 (t.Rows.map jE)]]:=by rw[hq1];simp[nK]
   have hpl2:(nK x k (qAt (tC w P) (B.take j))).length=j:=by simp[nK,hql]
   rw[<-hq1]at hL1 hK1;obtain⟨ts',hts'⟩:∃ts',qAt (tC w P) (B.take (j+1))=ts':=⟨_,rfl⟩;rw[hts']at hL1 hK1 hpr hq1;generalize qAt (tC w P) (B.take j)=ts at *;generalize gZ (List.replicate w.Calls.length false) ((B.map λc=>P[c]?.getD 0).take j)=G at *;have hbk:=F.book;have hps:=F.pass;have hE:=ytM (xR r w.yR0 ts) r t ⟨by omega,hls.2⟩ tsm;have hTE:=yqj x.yRZ t x.Time hs.2.2.2.2.2.2.1 tsm;have hTl:=ycW x.yRZ t x.Time;have hPE:=yp5 (aU x ts) (jH x.yRZ t x.Time) (by omega) (by omega);have hCp:=ybP t tsm;generalize jH x.yRZ t x.Time=te at *;generalize xH (xR r w.yR0 ts) r t=EE at *;generalize gJ (aU x ts) te=PE at *;generalize xR r w.yR0 ts=LI at *;generalize aU x ts=BK at *;generalize nK x k ts=PI at *;have hpG:p<G.length:=by rw[hgl];exact pl
   obtain⟨gv,hgv⟩:∃gv,G[p]?=some gv:=⟨_,zab hpG⟩;have ggv:=(zaa.1 hgv).2;have kwl:k<(bM x.yRX).length:=by rw[hwl];exact kw
   simp -dsimp -implicitDefEqProofs [fC jlt,jlt,hc,gc,kC,hp,gp,cl,aw,gaw,hwl,kw,kwl,hq,gq,pl];intro hlen2;refine yYo hE ?_;simp -dsimp -implicitDefEqProofs [aw,gaw,hwl,kw,kwl,hgv,ggv,hgl,pl,hpG,bD];refine yYo hTE (goQ_ ?_);refine yYo hPE ?_;simp -dsimp -implicitDefEqProofs [bD,hc,gc,jlt,hp,gp,cl,aw,gaw,hwl,kw,kwl,hq,gq,pl];refine yYo hCp ?_;simp -dsimp -implicitDefEqProofs [bD,iW];have hpl3:x.yR1.length+PI.length+1=x.yR1.length+(j+1):=by omega
   refine⟨hpl2.symm,by omega,gB jlt hlenB,j+1,jlt,by omega,?_⟩;apply aB<;>simp[Obj.leO,bD,hts',hL1,hK1,hG1,hpr,hpl3,hgv,ggv,hpG,ypi,zaP,hwl,hmr,aw,gaw,kw,kwl]
  .obtain rfl:j=B.length:=by omega
   obtain⟨ts,hTs⟩:∃ts,qAt (tC w P) B=ts:=⟨_,rfl⟩;obtain⟨G,hG⟩:∃G,gZ (List.replicate w.Calls.length false) (B.map λc=>P[c]?.getD 0)=G:=⟨_,rfl⟩;have hgl:=yhN (g:=List.replicate w.Calls.length false) (is:=B.map λc=>P[c]?.getD 0);rw[zbq,hG]at hgl;have hls:=yZ (r:=r) ts w.yR0 1048 ⟨by rw[hI];simp,sw.1.2⟩ (by rw[<-hTs];exact yg0 hqs hBm);have hlo:=ywV (r:=r) ts w.yR0 hlok;have hts8:ts.length=B.length:=by rw[<-hTs];simp[qAt]
   have e1:B.take B.length=B:=List.take_length;have e2:(B.map λc=>P[c]?.getD 0).take B.length=B.map λc=>P[c]?.getD 0:=List.take_of_length_le (by simp);simp only[zaf]at hR;rw[hTs,hG]at hR;rw[e1,e2,hTs,hG];obtain⟨b0,hb0⟩:∃b0,B[0]?=some b0:=⟨_,zab (zbf.2 hch)⟩;have gb0:=(zaa.1 hb0).2;have lb0:=(zaa.1 hb0).1;have lq0:=hBm b0 (zac hb0);rw[htl]at lq0;obtain⟨p0,hp0⟩:∃p,P[b0]?=some p:=⟨_,zab lq0⟩;have gp0:=(zaa.1 hp0).2;have pl0:=hPm p0 (zac hp0);obtain⟨⟨t0,sn0,bo0⟩,hc0⟩:∃q,w.Calls[p0]?=some q:=⟨_,zab pl0⟩;have gc0:=(zaa.1 hc0).2
   have h0:ts[0]?.getD ⟨false,[]⟩=t0:=by
    rw[<-hTs];have h1:(tC w P)[b0]?=some t0:=by simp[tC,hp0,aO,zaf,hc0]
    simp[qAt,hb0,zaf,h1]
   rw[h0]at hR;have hpl:(nK x k ts).length=B.length:=by simp[nK,hts8]
   have hck:∀k0 t,w.Calls[k0]?=some t->mO w.Calls G (k0+1)=if G.getD k0 false then mO w.Calls G k0 else mO w.Calls G k0++[t]:=λk0 t h=>yqL h
   have hNT:=yv4 w.Turn t0.Up;have hSG:=ymz (xR r w.yR0 ts) ⟨by omega,hls.2⟩;rw[if_pos hlo]at hSG;generalize nY w.Turn t0.Up=NT at *;generalize xR r w.yR0 ts=LI at *;have kwl:k<(bM x.yRX).length:=by rw[hwl];exact kw
   simp -dsimp -implicitDefEqProofs [aG jge2,hb0,gb0,lb0,hp0,gp0,lq0,hc0,gc0,pl0,kC,aw,gaw,hwl,kw,kwl];intro hlen3;refine yYr hNT (yaff aw gaw hwl kw kwl ?_);have hcl:=sw.2.2.1;refine yX2 (λi=>i<=w.Calls.length) (λi=>xC [(0,.box 0 0),(1000000,.box 0 0),(1,.c (.i k)),(5,.box 5 0),(6,.c (.b false)),(7,.row 40000 22 k 0),(12,.own 83 1 w.Calls.length),(16,.own 181 4 (mO w.Calls G i).length),(17,.c (.i i))] [(0,.box (bD x (aU x ts) (x.yR1.length+B.length))),(5,.box (r.enc.map .c)),(20000,.row 3 (x.yRV.map Reach.enc)),(40000,.tr 22 0 ((bM x.yRX).set k (⟨LI,w.ySp,w.Rule,w.Pauses,NT,w.Calls⟩:yR8).enc)),(50000,.tr 1 0 mr),(83,.row 1 (G.map ypi)),(181,.row 4 ((mO w.Calls G i).map yR4.enc)),(130000,.row 4 ((x.yR1++nK x k ts).map yR2.enc))]) (λi=>w.Calls.length-i) (by apply aB<;>simp[Obj.leO,mO,bD,hwl,hmr,kw,kwl,aw,gaw,hpl]) ?_
   rintro i hi
   have hll:=ymW (cs:=w.Calls) (g:=G) (k:=i);rcases yX1 i w.Calls with⟨ilt,c,hc⟩|ige
   .have gc:=(zaa.1 hc).2;obtain⟨gv,hgv⟩:∃gv,G[i]?=some gv:=⟨_,zab (by rw[hgl];exact ilt)⟩;have ggv:=(zaa.1 hgv).2;have igl:i<G.length:=by rw[hgl];exact ilt
    have hsu:=hck i c hc;rw[zaf,hgv]at hsu;cases gv with
    |true=>
     rw[if_pos (by rfl)]at hsu;simp -dsimp -implicitDefEqProofs [fC ilt,ilt,hc,gc,hgv,ggv,igl,ypi,hgl,aw,gaw,hwl,kw,kwl];intro hlen4;refine⟨gB ilt hlen4,i+1,ilt,by omega,?_⟩;apply aB<;>simp[Obj.leO,bD,hsu,hwl,hmr,kw,kwl,aw,gaw,hpl]
    |false=>
     rw[if_neg (by simp)]at hsu;simp -dsimp -implicitDefEqProofs [fC ilt,ilt,hc,gc,hgv,ggv,igl,ypi,hgl,aw,gaw,hwl,kw,kwl];intro hlen4;refine⟨by omega,gB ilt hlen4,i+1,ilt,by omega,?_⟩;apply aB<;>simp[Obj.leO,bD,hsu,hwl,hmr,kw,kwl,aw,gaw,hpl]
   .obtain rfl:i=w.Calls.length:=by omega
    have htk:List.take (mO w.Calls G w.Calls.length).length ((mO w.Calls G w.Calls.length).map yR4.enc)=(mO w.Calls G w.Calls.length).map yR4.enc:=List.take_of_length_le (by simp);simp -dsimp -implicitDefEqProofs [aG ige,aw,gaw,hwl,kw,kwl,setAt,htk];intro hlen5;refine yYp hSG ?_;simp -dsimp -implicitDefEqProofs [aw,gaw,hwl,kw,kwl,bD];rw[<-hR];have htw:∀X,List.take x.yRX.length ((bM x.yRX).set k X)=(bM x.yRX).set k X:=λX=>List.take_of_length_le (by rw[zbF,hwl];exact Nat.le_refl _);have htm:List.take x.yR3.length mr=mr:=List.take_of_length_le (by omega);have htp:List.take (x.yR1.length+B.length) (x.yR1.map yR2.enc++(nK x k ts).map yR2.enc)=x.yR1.map yR2.enc++(nK x k ts).map yR2.enc:=List.take_of_length_le (by simp[hpl]);refine⟨by simp -dsimp -implicitDefEqProofs,⟨bD x (aU x ts) (x.yR1.length+B.length),[20000,40000,50000,130000],by simp -dsimp -implicitDefEqProofs [bD],?_,by decide⟩,by simp -dsimp -implicitDefEqProofs⟩;simp -dsimp -implicitDefEqProofs [bD,ytx,yRW.qX,wC,jA,htw,htm,htp]
def oW{x:yRW}{k:Nat}{w:yR8}(h:x.small)(hw:yR8.small w):(rD x k w).small:=by
 obtain⟨s1,s2,s3,s4,s5,s6,s7,s8,s9⟩:=h;exact⟨s1,s2,yuN s3 hw,s4,s5,s6,s7,s8,s9⟩
def yq9{x:yRW}{k:Nat}{r:Reach}(h:x.small)(hr:r.small):(qJ x k r).small:=by
 obtain⟨s1,s2,s3,s4,s5,s6,s7,s8,s9⟩:=h;exact⟨yuN s1 hr,s2,s3,s4,s5,s6,s7,s8,s9⟩
def yfB{w:yR8}{l:yR0}(h:yR8.small w)(hl:l.small):yR8.small (rH w l):=⟨hl,h.2.1,h.2.2⟩
def ytT{l:yR0}{a b:Reach}{g:Int}(h:l.small):(tK l a b g).1.small:=by
 unfold tK;split<;>exact h
def yCw{l:yR0}{r:Reach}(h:l.small)(hr:r.small):(mM l r).1.small/\(mM l r).2.small:=by
 unfold mM;split
 .split
  .exact⟨h,hr⟩
  .exact⟨h,ywk hr⟩
 .exact⟨h,hr⟩
def yzD{l:yR0}{r:Reach}(h:l.small)(hr:r.small):(rJ l r).1.small/\(rJ l r).2.small:=by
 unfold rJ;split
 .split
  .exact⟨h,hr⟩
  .exact⟨h,yxR hr⟩
 .exact⟨h,hr⟩
def yrJ{x:yRW}{k:Nat}(h:x.small)(F:ySq x k):(qM x k).small:=by
 have sw:=F.sw;have kr:=F.kr;unfold qM;split
 .exact h
 .unfold yls;split
  .exact oW h (yfB sw (ytT sw.1))
  .generalize yan (dW x.yRX k) (ybZ x k)=g;have hsl:lI k g<x.yRV.length:=by unfold lI;split<;>omega
   have hr:=h.1.2 _ (zac (ye8 hsl))
   have hL:(jT (dW x.yRX k).yR0 (dR x.yRV (lI k g))).1.small/\(jT (dW x.yRX k).yR0 (dR x.yRV (lI k g))).2.small:=by
    unfold jT;split
    .exact yCw sw.1 hr
    .exact yzD sw.1 hr
   exact yq9 (oW h (yfB sw hL.1)) hL.2
def yuj{x:yRW}{k:Nat}(h:x.small)(F:ySq x k):(xY x k).small:=by
 have sw:=F.sw;unfold xY;split
 .exact oW h sw
 .exact oW h sw
def yrD{x:yRW}{k:Nat}(h:x.small)(F:ySq x k):(iK x k).1.small:=by
 have sw:=F.sw;unfold iK;split
 .have hT:(lW x k).1.small/\(lW x k).2.1.small:=by
   unfold lW sK;split
   .rename_i i _;refine⟨⟨?_,λy hy=>?_⟩,?_⟩
    .have:=sw.1.1;simp[yfI];omega
    .have hy:y∈yfI (dW x.yRX k).yR0.yRY i:=hy;unfold yfI at hy;rcases zaj.1 hy with e|e
     .exact sw.1.2 y (zas e)
     .exact sw.1.2 y (zaI e)
    .simp only[zaf];cases hi:(dW x.yRX k).yR0.yRY[i]? with
     |none=>exact⟨zbA _,λy hy=>nomatch hy⟩
     |some t=>exact sw.1.2 t (zac hi)
   .exact⟨sw.1,⟨zbA _,λy hy=>nomatch hy⟩⟩
  obtain⟨s1,s2,s3,s4,s5,s6,s7,s8,s9⟩:=oW (k:=k) h (yfB sw hT.1);refine⟨s1,s2,s3,⟨by have:=s4.1;simpa[oG]using this,λl hl=>?_⟩,s5,s6,s7,s8,s9⟩;rcases zaS hl with e|e
  .exact s4.2 l e
  .rw[e,zaf]
   have hm:((rD x k (rH (dW x.yRX k) (lW x k).1)).yR3[jM x k]?.getD []).length<=24/\∀m∈((rD x k (rH (dW x.yRX k) (lW x k).1)).yR3[jM x k]?.getD []),m.small:=by
    show(x.yR3[jM x k]?.getD []).length<=24/\∀m∈(x.yR3[jM x k]?.getD []),m.small
    cases hk:x.yR3[jM x k]? with
    |none=>simp
    |some ms=>exact⟨F.few ms (zac hk),(h.2.2.2.1.2 ms (zac hk)).2⟩
   refine⟨by rw[zah,zaY];omega,λm hm2=>?_⟩;rcases zaj.1 hm2 with e|e
   .exact hm.2 m e
   .rw[zan.1 e];exact hT.2
 .exact h
def yrZ{x:yRW}{k:Nat}(h:x.small)(F:ySq x k):(bH x k).1.small:=by
 have sw:=F.sw;have c24:=F.calls;have hbk:=F.book;have hps:=F.pass;unfold bH;split
 .rename_i hm;simp only[yeC,zad,decide_eq_true_eq]at hm;have hI:=hm.1.1
  have hqs:∀t∈tC (dW x.yRX k) (places x k),t.small:=λt ht=>by
   obtain⟨i,_,rfl⟩:=zaM.1 ht;exact ya9 sw.2.2 i
  obtain⟨hBm,hB8⟩:=yxH (l:=(dW x.yRX k).yR0) hqs;have hT:∀t∈yiZ x k,t.small:=yg0 hqs hBm
  have hT8:(yiZ x k).length<=8:=by
   have:(yiZ x k).length=(chosen x k).length:=by simp[yiZ,qAt]
   rw[this];exact hB8
  have hL:=yZ (r:=dR x.yRV (jM x k)) (yiZ x k) (dW x.yRX k).yR0 8 ⟨by rw[hI];simp,sw.1.2⟩ hT;have hbl:=ynk (x:=x) 8 (yiZ x k) hT8;have hll:=ymW (cs:=(dW x.yRX k).Calls) (g:=yyy x k) (k:=(dW x.yRX k).Calls.length);obtain⟨s1,s2,s3,s4,s5,s6,s7,s8,s9⟩:=h;refine oW (x:=⟨x.Time,x.yRV,x.ySl,x.yRX,x.yR3,x.yR9,x.ySd,x.yRZ,aU x (yiZ x k),x.yR1++nK x k (yiZ x k),x.Start,x.In,x.Out⟩) ⟨s1,s2,s3,s4,s5,s6,s7,⟨by simp only;omega,λ_ _=>trivial⟩,⟨?_,λp hp=>?_⟩⟩ ⟨⟨?_,hL.2⟩,sw.2.1,⟨by show(mO _ _ _).length<=_;omega,yBN (Nat.le_refl _) sw.2.2.2⟩⟩
  .simp[nK];omega
  .rcases zaj.1 hp with e|e
   .exact s9.2 p e
   .obtain⟨t,ht,rfl⟩:=zaM.1 e;exact hT t ht
  .have:=hL.1
   show(xR _ _ _).yRY.length<=_
   omega
 .exact h
def yeU(x:yRW)(k:Nat):yRW:=
 if yag x k=0 then qM x k else if(iK x k).2 then(iK x k).1 else if(bH x k).2 then(bH x k).1 else xY x k
def yFL{x:yRW}{k:Nat}(h:(iK x k).2=false):(iK x k).1=x:=by
 unfold iK at h|-;split at h
 .cases h
 .rename_i h2;rw[if_neg h2]
def yGC{x:yRW}{k:Nat}(h:(bH x k).2=false):(bH x k).1=x:=by
 unfold bH at h|-;split at h
 .cases h
 .rename_i h2;rw[if_neg h2]
def yjy{x:yRW}{k:Nat}(h:x.small)(F:ySq x k):(yeU x k).small:=by
 unfold yeU;split
 .exact yrJ h F
 .split
  .exact yrD h F
  .split
   .exact yrZ h F
   .exact yuj h F
def yd9(x:yRW)(k:Int):Bool:=rC x&&decide (0<=k)&&decide (k<x.yRX.length)
def fQ(x:yRW)(k:Int):yRW:=if yd9 x k&&rC (yeU x k.toNat)then yeU x k.toNat else x
def yuv{x:yRW}{k:Int}(h:yd9 x k=false):fQ x k=x:=by simp[fQ,h]
set_option maxRecDepth 20000 in
def yaen(x:yRW)(k:Int)(hs:x.small):qB prg 75 [.agg (x.enc.map .c),.c (.i k)] (.agg ((fQ x k).enc.map .c)):=by
 refine dB yBF (goQ_ ?_);refine yYq (yis x hs) ?_;cases h:rC x with
 |false=>simp -dsimp -implicitDefEqProofs;simp[yuv,yd9,h]
 |true=>
 by_cases h0:k<0
 .have:¬0<=k:=by omega
  rw[yuv (by simp[yd9,this])];exact yafA h0
 obtain⟨n,rfl⟩:=zbI (by omega:0<=k)
 by_cases h1:(x.yRX.length:Int)<=n
 .have:¬(n:Int)<x.yRX.length:=by omega
  rw[yuv (by simp[yd9,this])];have t1:(x.yRX.length<=n)=True:=eq_true (by omega);exact yafA t1
 have F:=ym8 h hs (k:=n) (by omega);have kw:=F.kw;have hc:yd9 x (n:Int)=true:=by simp[yd9,h];omega
 have t1:(x.yRX.length<=n)=False:=eq_false (by omega);have hw:=yi4 F.kw;obtain⟨y,hy⟩:∃y,yeU x n=y:=⟨_,rfl⟩;have hys:y.small:=by rw[<-hy];exact yjy hs F
 have hY:=yis y hys;have e:fQ x (n:Int)=if rC y then y else x:=by simp[fQ,hc,hy]
 rw[e];have hWa:=ys1 x n hs F;have hLe:=ysR x n hs F;have hEn:=ysl x n hs F;have hSh:=ywM x n hs F;have hln:=yFL (x:=x) (k:=n);have hen:=yGC (x:=x) (k:=n);unfold yeU yag at hy;generalize qM x n=Wa at *;generalize iK x n=Le at *;generalize bH x n=En at *;generalize xY x n=Sh at *;generalize dW x.yRX n=w at *;have gw:=(zaa.1 hw).2;obtain⟨R,hR⟩:∃R,(if rC y then y else x)=R:=⟨_,rfl⟩;rw[hR];have t0:((n:Int)<0)=False:=eq_false (by omega);have fin:rC y=false->R=x:=λh=>by rw[<-hR,h];rfl
 have fin2:rC y=true->R=y:=λh=>by rw[<-hR,h];rfl
 by_cases hg:w.yR0.Gate=0
 .rw[if_pos hg]at hy;refine yafn t0 t1 hw gw kw (fC kw) hg ?_;intro _;rw[hy]at hWa;refine yYp hWa (goQ_ ?_);refine yYq hY ?_;cases hok:rC y with
  |false=>rw[fin hok];simp -dsimp -implicitDefEqProofs
  |true=>rw[fin2 hok];simp -dsimp -implicitDefEqProofs
 .rw[if_neg hg]at hy;refine yafn t0 t1 hw gw kw (fC kw) hg ?_;intro _;refine yYp hLe ?_;cases hl:Le.2 with
  |true=>
   rw[hl,if_pos rfl]at hy;rw[hy];refine goQ_ ?_;refine yYq hY ?_;cases hok:rC y with
   |false=>rw[fin hok];simp -dsimp -implicitDefEqProofs
   |true=>rw[fin2 hok];simp -dsimp -implicitDefEqProofs
  | false=>
   rw[hl,if_neg zaH]at hy;rw[hln hl];refine goQ_ ?_;refine yYp hEn ?_;cases hn:En.2 with
   |true=>
    rw[hn,if_pos rfl]at hy;rw[hy];refine goQ_ ?_;refine yYq hY ?_;cases hok:rC y with
    |false=>rw[fin hok];simp -dsimp -implicitDefEqProofs
    |true=>rw[fin2 hok];simp -dsimp -implicitDefEqProofs
   |false=>
    rw[hn,if_neg zaH]at hy;rw[hen hn];rw[hy]at hSh;refine goQ_ ?_;refine yYp hSh (goQ_ ?_);refine yYq hY ?_;cases hok:rC y with
    |false=>rw[fin hok];simp -dsimp -implicitDefEqProofs
    |true=>rw[fin2 hok];simp -dsimp -implicitDefEqProofs
def ykL{x:yRW}{k:Int}(h:x.small):(fQ x k).small:=by
 unfold fQ;split
 .rename_i hc;simp only[yd9,zad,decide_eq_true_eq]at hc;exact yjy h (ym8 hc.1.1.1 h (by omega))
 .exact h
def ycb(ws:List yR8):yaq (bM ws)=some (bM ws):=eF (f:=yR8.enc) (g:=yR8.enc) (λw=>rfl) ws
def yo2(ws:List yR8):bM ws=ws.map yR8.enc:=rfl
set_option maxHeartbeats 8000000 in
set_option maxRecDepth 40000 in
def yD5(x:yRW)(k:Nat)(hs:x.small)(F:ySq x k)(hok:rC x=true)(mr:List (List C))(hms:yaq mr=some (x.yR3.map nD)):
 InF prg 89 (.c (.bx (x.qX (bM x.yRX) mr))) (.c (.bx ((qM x k).qX (bM (qM x k).yRX) mr))) [.c (.i k)] (.tup []):=by
 have kw:=F.kw;have kr:=F.kr;have sw:=F.sw;have rl:=F.rl;have hmr:mr.length=x.yR3.length:=by have:=(yoU hms).1;simpa using this.symm
 have htm:List.take x.yR3.length mr=mr:=List.take_of_length_le (by omega);have hw:=yi4 F.kw;have ha:=ye8 (rs:=x.yRV) (k:=k) (by omega);have hb:=ye8 kr;have hA:=yiz x k hs;rw[ytL hok ⟨hw,ha,hb,F.wok,by have:=(yjV hok).wks;have:=(yjV hok).two;omega⟩]at hA;have hsm:=yhK (a:=dR x.yRV k) (b:=dR x.yRV (k+1)) sw;have hN:=ymP (able (dR x.yRV k) (dR x.yRV (k+1)) (dW x.yRX k)) (dW x.yRX k).Turn x.Time hsm;have hN2:ybZ x k=mW (able (dR x.yRV k) (dR x.yRV (k+1)) (dW x.yRX k)) (dW x.yRX k).Turn x.Time:=rfl;rw[<-hN2]at hN;generalize able (dR x.yRV k) (dR x.yRV (k+1)) (dW x.yRX k)=A at *;clear hN2;obtain⟨Y,hY⟩:∃Y,qM x k=Y:=⟨_,rfl⟩;rw[hY];unfold qM at hY;generalize ybZ x k=N at *;obtain⟨g,hg⟩:∃g,yan (dW x.yRX k) N=g:=⟨_,rfl⟩;rw[hg]at hY;have hg12:g=1\/g=2:=by rw[<-hg];unfold yan;split<;>omega
 have hsl:lI k g<x.yRV.length:=by unfold lI;split<;>omega
 have hr:=ye8 hsl;have hsr:=hs.1.2 _ (zac hr);have hO:=yvJ (dW x.yRX k).yR0 (dR x.yRV k) (dR x.yRV (k+1)) g sw.1;have hCh:=iQ (dW x.yRX k).yR0 sw.1;have hLv:=dN (dR x.yRV (lI k g));have hFi:=ywg (dW x.yRX k).yR0 (dR x.yRV (lI k g)) sw.1 hsr;have hDr:=yvo (dW x.yRX k).yR0 (dR x.yRV (lI k g)) sw.1 hsr;have hWT:yls x k g=if(opening x k g).2 then rD x k (rH (dW x.yRX k) (opening x k g).1)else qJ (rD x k (rH (dW x.yRX k) (jT (dW x.yRX k).yR0 (dR x.yRV (lI k g))).1)) (lI k g) (jT (dW x.yRX k).yR0 (dR x.yRV (lI k g))).2:=rfl
 have hO2:tK (dW x.yRX k).yR0 (dR x.yRV k) (dR x.yRV (k+1)) g=opening x k g:=rfl;have hLe:jT (dW x.yRX k).yR0 (dR x.yRV (lI k g))=if bG (dW x.yRX k).yR0<kD (dR x.yRV (lI k g))then mM (dW x.yRX k).yR0 (dR x.yRV (lI k g))else rJ (dW x.yRX k).yR0 (dR x.yRV (lI k g)):=rfl
 rw[hO2]at hO;rw[hWT]at hY;clear hWT hO2;generalize opening x k g=O at *;generalize jT (dW x.yRX k).yR0 (dR x.yRV (lI k g))=L at *;generalize mM (dW x.yRX k).yR0 (dR x.yRV (lI k g))=Fi at *;generalize rJ (dW x.yRX k).yR0 (dR x.yRV (lI k g))=Dr at *;have hsd:lI k g=if g=1 then k else k+1:=rfl
 generalize lI k g=sd at *;generalize bG (dW x.yRX k).yR0=cl at *;generalize kD (dR x.yRV sd)=lv at *;generalize dR x.yRV sd=rs at *;generalize dR x.yRV k=ra at *;generalize dR x.yRV (k+1)=rb at *;generalize dW x.yRX k=w at *;have hsw:=λl=>@yk6 x.yRX k (rH w l);simp only[yR8.enc,rH]at hsw;have aw:=yt5 hw;simp only[yR8.enc]at aw;have gaw:=(zaa.1 aw).2;have ga:=(zaa.1 ha).2;have gb:=(zaa.1 hb).2;have gr:=(zaa.1 hr).2;have ka:k<x.yRV.length:=by omega
 have hwl:=ygI (ws:=x.yRX);have kwl:k<(bM x.yRX).length:=by rw[hwl];exact kw
 have htw:∀ws:List yR8,ws.length=x.yRX.length->List.take x.yRX.length (bM ws)=bM ws:=λws h=>List.take_of_length_le (by rw[ygI];omega);have htw0:=htw x.yRX rfl;have htw1:=λv=>htw (x.yRX.set k v) (by simp);have hts:∀(i:Nat) (X:List C),List.take x.yRV.length ((x.yRV.map Reach.enc).set i X)=(x.yRV.map Reach.enc).set i X:=λi X=>List.take_of_length_le (by simp);have hrs:=ycb x.yRX;rw[yo2]at hrs;have hre:=yo2 x.yRX;obtain⟨n1,n2⟩:=N;refine ycN yvg (by simp) (by simp[yRW.qX]) rfl λhwf=>?_;simp -dsimp -implicitDefEqProofs [ykd,yRW.qX,aw,gaw,hwl,kw,fC kw];refine pJ hA (by simp -dsimp -implicitDefEqProofs [jA,hms,htm,hrs,hre]) (iJ yR4.aF _ _) (by simp[fD]) (yaeV aw gaw hwl kw ?_);refine nC (hN) (by simp -dsimp -implicitDefEqProofs [eF yR4.bF,jA]) (.inr rfl) (goQ_ ?_)
 have hcase:(w.yR0.yRY=[]/\n2=false)\/(∃u,(w.yR0.yRY=[]/\n2=true/\n1= !u)/\g=if u then 1 else 2)\/(∃u t,(w.yR0.yRY[0]?=some t/\t.Up=u)/\g=if u then 1 else 2):=by
  by_cases hI:w.yR0.yRY=[]
  .cases h2:n2 with
   |false=>exact .inl ⟨hI,rfl⟩
   |true=>exact .inr (.inl ⟨!n1,⟨hI,rfl,by simp⟩,by rw[<-hg];simp[yan,yoI,hI]⟩)
  .obtain⟨t,ht⟩:∃t,w.yR0.yRY[0]?=some t:=⟨_,zab (zbf.2 hI)⟩;exact .inr (.inr ⟨t.Up,t,⟨ht,rfl⟩,by rw[<-hg];simp[yan,yoI,hI,zaf,ht]⟩)
 rcases hcase with⟨hI,h2⟩|⟨u,⟨hI,h2,h1⟩,hgu⟩|⟨u,t,⟨ht,hu⟩,hgu⟩
 .have hre:rests w (n1,n2)=true:=by simp[rests,hI,h2]
  rw[if_pos hre]at hY;subst hY h2;refine yafq hI aw gaw hwl kw kwl ?_;refine⟨by simp -dsimp -implicitDefEqProofs,⟨bD x x.Book x.yR1.length,[20000,40000,50000,130000],by simp -dsimp -implicitDefEqProofs [bD,hwl,hmr],?_,by decide⟩,⟨[],rfl,trivial⟩⟩;simp -dsimp -implicitDefEqProofs [bD,jA,htm,htw0]
 .have hre:rests w (!u,true)=false:=by simp[rests,hI]
  have i1:(0<w.yR0.yRY.length)=False:=eq_false (by rw[hI];simp);have i2:(w.yR0.yRY=[])=True:=eq_true hI;subst h2 h1;rw[if_neg (show¬rests w (!u,true)=true fromλh=>by rw[hre]at h;cases h)]at hY;cases u with
  | true=>
   simp only[if_true]at hgu;subst hgu;rw[if_pos rfl]at hsd;rw[hsd]at hr hsl hY;have hrr:rs=ra:=by rw[ha]at hr;exact(Option.some.inj hr).symm
   subst hrr;simp -dsimp -implicitDefEqProofs [i1,i2,ha,ga,ka,hb,gb,kr,aw,gaw,hwl,kw,kwl]
   refineλ_=>⟨by unfold inI;omega,by omega,by omega,?_⟩
   refine yYo hO ?_;simp -dsimp -implicitDefEqProofs [ha,ga,ka,hb,gb,kr,aw,gaw,hwl,kw,kwl,hsw];refine⟨λhO2=>?_,λhO2=>?_⟩
   .rw[hO2,if_pos rfl]at hY;refine⟨by simp -dsimp -implicitDefEqProofs,⟨bD x x.Book x.yR1.length,[20000,40000,50000,130000],by simp -dsimp -implicitDefEqProofs [bD,hwl,hmr],?_,by decide⟩,⟨[],rfl,trivial⟩⟩;simp -dsimp -implicitDefEqProofs [<-hY,bD,jA,htm,htw0,rD,qJ,hwl,hsw,htw1,hts]
   .rw[hO2,if_neg zaH]at hY;refine yYr hCh ?_;simp -dsimp -implicitDefEqProofs [ha,ga,ka,hb,gb,kr,aw,gaw,hwl,kw,kwl];refine yYr hLv ?_;simp -dsimp -implicitDefEqProofs [ha,ga,ka,hb,gb,kr,aw,gaw,hwl,kw,kwl];refine⟨λhlt=>?_,λhlt=>?_⟩
    .rw[if_pos hlt]at hLe;rw[hLe]at hY;refine yYo hFi ?_;simp -dsimp -implicitDefEqProofs [ha,ga,ka,hb,gb,kr,aw,gaw,hwl,kw,kwl,hsw];refine⟨by simp -dsimp -implicitDefEqProofs,⟨bD x x.Book x.yR1.length,[20000,40000,50000,130000],by simp -dsimp -implicitDefEqProofs [bD,hwl,hmr],?_,by decide⟩,⟨[],rfl,trivial⟩⟩;simp -dsimp -implicitDefEqProofs [<-hY,bD,jA,htm,htw0,rD,qJ,hwl,hsw,htw1,hts]
    .rw[if_neg (show¬cl<lv by omega)]at hLe;rw[hLe]at hY;refine yYo hDr ?_;simp -dsimp -implicitDefEqProofs [ha,ga,ka,hb,gb,kr,aw,gaw,hwl,kw,kwl,hsw];refine⟨by simp -dsimp -implicitDefEqProofs,⟨bD x x.Book x.yR1.length,[20000,40000,50000,130000],by simp -dsimp -implicitDefEqProofs [bD,hwl,hmr],?_,by decide⟩,⟨[],rfl,trivial⟩⟩;simp -dsimp -implicitDefEqProofs [<-hY,bD,jA,htm,htw0,rD,qJ,hwl,hsw,htw1,hts]
  | false=>
   simp only[zbi,if_false]at hgu;subst hgu;rw[if_neg (show¬(2:Int)=1 from by decide)]at hsd;rw[hsd]at hr hsl hY;have hrr:rs=rb:=by rw[hb]at hr;exact(Option.some.inj hr).symm
   subst hrr;simp -dsimp -implicitDefEqProofs [i1,i2,ha,ga,ka,hb,gb,kr,aw,gaw,hwl,kw,kwl]
   refineλ_=>⟨by unfold inI;omega,by omega,by omega,?_⟩
   refine yYo hO ?_;simp -dsimp -implicitDefEqProofs [ha,ga,ka,hb,gb,kr,aw,gaw,hwl,kw,kwl,hsw];refine⟨λhO2=>?_,λhO2=>?_⟩
   .rw[hO2,if_pos rfl]at hY;refine⟨by simp -dsimp -implicitDefEqProofs,⟨bD x x.Book x.yR1.length,[20000,40000,50000,130000],by simp -dsimp -implicitDefEqProofs [bD,hwl,hmr],?_,by decide⟩,⟨[],rfl,trivial⟩⟩;simp -dsimp -implicitDefEqProofs [<-hY,bD,jA,htm,htw0,rD,qJ,hwl,hsw,htw1,hts]
   .rw[hO2,if_neg zaH]at hY;refine yYr hCh ?_;simp -dsimp -implicitDefEqProofs [ha,ga,ka,hb,gb,kr,aw,gaw,hwl,kw,kwl];refine⟨by omega,by omega,?_⟩;refine yYr hLv ?_;simp -dsimp -implicitDefEqProofs [ha,ga,ka,hb,gb,kr,aw,gaw,hwl,kw,kwl];refine⟨λhlt=>?_,λhlt=>?_⟩
    .rw[if_pos hlt]at hLe;rw[hLe]at hY;refine⟨by omega,by omega,?_⟩;refine yYo hFi ?_;simp -dsimp -implicitDefEqProofs [ha,ga,ka,hb,gb,kr,aw,gaw,hwl,kw,kwl,hsw];refine⟨by omega,by omega,?_⟩;refine⟨by simp -dsimp -implicitDefEqProofs,⟨bD x x.Book x.yR1.length,[20000,40000,50000,130000],by simp -dsimp -implicitDefEqProofs [bD,hwl,hmr],?_,by decide⟩,⟨[],rfl,trivial⟩⟩;simp -dsimp -implicitDefEqProofs [<-hY,bD,jA,htm,htw0,rD,qJ,hwl,hsw,htw1,hts]
    .rw[if_neg (show¬cl<lv by omega)]at hLe;rw[hLe]at hY;refine⟨by omega,by omega,?_⟩;refine yYo hDr ?_;simp -dsimp -implicitDefEqProofs [ha,ga,ka,hb,gb,kr,aw,gaw,hwl,kw,kwl,hsw];refine⟨by omega,by omega,?_⟩;refine⟨by simp -dsimp -implicitDefEqProofs,⟨bD x x.Book x.yR1.length,[20000,40000,50000,130000],by simp -dsimp -implicitDefEqProofs [bD,hwl,hmr],?_,by decide⟩,⟨[],rfl,trivial⟩⟩;simp -dsimp -implicitDefEqProofs [<-hY,bD,jA,htm,htw0,rD,qJ,hwl,hsw,htw1,hts]
 .have hre:rests w (n1,n2)=false:=by
   have:w.yR0.yRY≠[]:=λh=>by rw[h]at ht;cases ht
   simp[rests,this]
  have gt:=(zaa.1 ht).2;have i1:(0<w.yR0.yRY.length)=True:=eq_true (zaa.1 ht).1;have i2:(w.yR0.yRY=[])=False:=eq_false λh=>by rw[h]at ht;cases ht
  rw[if_neg (show¬rests w (n1,n2)=true fromλh=>by rw[hre]at h;cases h)]at hY;cases u with
  | true=>
   simp only[if_true]at hgu;subst hgu;rw[if_pos rfl]at hsd;rw[hsd]at hr hsl hY;have hrr:rs=ra:=by rw[ha]at hr;exact(Option.some.inj hr).symm
   subst hrr;simp -dsimp -implicitDefEqProofs [i1,i2,ht,gt,hu,ha,ga,ka,hb,gb,kr,aw,gaw,hwl,kw,kwl];refine⟨λ_=>?_,λ_=>?_⟩
   all_goals
    refineλ_=>⟨by unfold inI;omega,by omega,by omega,?_⟩
    refine yYo hO ?_;simp -dsimp -implicitDefEqProofs [ha,ga,ka,hb,gb,kr,aw,gaw,hwl,kw,kwl,hsw];refine⟨λhO2=>?_,λhO2=>?_⟩
    .rw[hO2,if_pos rfl]at hY;refine⟨by simp -dsimp -implicitDefEqProofs,⟨bD x x.Book x.yR1.length,[20000,40000,50000,130000],by simp -dsimp -implicitDefEqProofs [bD,hwl,hmr],?_,by decide⟩,⟨[],rfl,trivial⟩⟩;simp -dsimp -implicitDefEqProofs [<-hY,bD,jA,htm,htw0,rD,qJ,hwl,hsw,htw1,hts]
    .rw[hO2,if_neg zaH]at hY;refine yYr hCh ?_;simp -dsimp -implicitDefEqProofs [ha,ga,ka,hb,gb,kr,aw,gaw,hwl,kw,kwl];refine yYr hLv ?_;simp -dsimp -implicitDefEqProofs [ha,ga,ka,hb,gb,kr,aw,gaw,hwl,kw,kwl];refine⟨λhlt=>?_,λhlt=>?_⟩
     .rw[if_pos hlt]at hLe;rw[hLe]at hY;refine yYo hFi ?_;simp -dsimp -implicitDefEqProofs [ha,ga,ka,hb,gb,kr,aw,gaw,hwl,kw,kwl,hsw];refine⟨by simp -dsimp -implicitDefEqProofs,⟨bD x x.Book x.yR1.length,[20000,40000,50000,130000],by simp -dsimp -implicitDefEqProofs [bD,hwl,hmr],?_,by decide⟩,⟨[],rfl,trivial⟩⟩;simp -dsimp -implicitDefEqProofs [<-hY,bD,jA,htm,htw0,rD,qJ,hwl,hsw,htw1,hts]
     .rw[if_neg (show¬cl<lv by omega)]at hLe;rw[hLe]at hY;refine yYo hDr ?_;simp -dsimp -implicitDefEqProofs [ha,ga,ka,hb,gb,kr,aw,gaw,hwl,kw,kwl,hsw];refine⟨by simp -dsimp -implicitDefEqProofs,⟨bD x x.Book x.yR1.length,[20000,40000,50000,130000],by simp -dsimp -implicitDefEqProofs [bD,hwl,hmr],?_,by decide⟩,⟨[],rfl,trivial⟩⟩;simp -dsimp -implicitDefEqProofs [<-hY,bD,jA,htm,htw0,rD,qJ,hwl,hsw,htw1,hts]
  | false=>
   simp only[zbi,if_false]at hgu;subst hgu;rw[if_neg (show¬(2:Int)=1 from by decide)]at hsd;rw[hsd]at hr hsl hY;have hrr:rs=rb:=by rw[hb]at hr;exact(Option.some.inj hr).symm
   subst hrr;simp -dsimp -implicitDefEqProofs [i1,i2,ht,gt,hu,ha,ga,ka,hb,gb,kr,aw,gaw,hwl,kw,kwl];refine⟨λ_=>?_,λ_=>?_⟩
   all_goals
    refineλ_=>⟨by unfold inI;omega,by omega,by omega,?_⟩
    refine yYo hO ?_;simp -dsimp -implicitDefEqProofs [ha,ga,ka,hb,gb,kr,aw,gaw,hwl,kw,kwl,hsw];refine⟨λhO2=>?_,λhO2=>?_⟩
    .rw[hO2,if_pos rfl]at hY;refine⟨by simp -dsimp -implicitDefEqProofs,⟨bD x x.Book x.yR1.length,[20000,40000,50000,130000],by simp -dsimp -implicitDefEqProofs [bD,hwl,hmr],?_,by decide⟩,⟨[],rfl,trivial⟩⟩;simp -dsimp -implicitDefEqProofs [<-hY,bD,jA,htm,htw0,rD,qJ,hwl,hsw,htw1,hts]
    .rw[hO2,if_neg zaH]at hY;refine yYr hCh ?_;simp -dsimp -implicitDefEqProofs [ha,ga,ka,hb,gb,kr,aw,gaw,hwl,kw,kwl];refine⟨by omega,by omega,?_⟩;refine yYr hLv ?_;simp -dsimp -implicitDefEqProofs [ha,ga,ka,hb,gb,kr,aw,gaw,hwl,kw,kwl];refine⟨λhlt=>?_,λhlt=>?_⟩
     .rw[if_pos hlt]at hLe;rw[hLe]at hY;refine⟨by omega,by omega,?_⟩;refine yYo hFi ?_;simp -dsimp -implicitDefEqProofs [ha,ga,ka,hb,gb,kr,aw,gaw,hwl,kw,kwl,hsw];refine⟨by omega,by omega,?_⟩;refine⟨by simp -dsimp -implicitDefEqProofs,⟨bD x x.Book x.yR1.length,[20000,40000,50000,130000],by simp -dsimp -implicitDefEqProofs [bD,hwl,hmr],?_,by decide⟩,⟨[],rfl,trivial⟩⟩;simp -dsimp -implicitDefEqProofs [<-hY,bD,jA,htm,htw0,rD,qJ,hwl,hsw,htw1,hts]
     .rw[if_neg (show¬cl<lv by omega)]at hLe;rw[hLe]at hY;refine⟨by omega,by omega,?_⟩;refine yYo hDr ?_;simp -dsimp -implicitDefEqProofs [ha,ga,ka,hb,gb,kr,aw,gaw,hwl,kw,kwl,hsw];refine⟨by omega,by omega,?_⟩;refine⟨by simp -dsimp -implicitDefEqProofs,⟨bD x x.Book x.yR1.length,[20000,40000,50000,130000],by simp -dsimp -implicitDefEqProofs [bD,hwl,hmr],?_,by decide⟩,⟨[],rfl,trivial⟩⟩;simp -dsimp -implicitDefEqProofs [<-hY,bD,jA,htm,htw0,rD,qJ,hwl,hsw,htw1,hts]
def ybD(l:List (List yR6)):List (List C):=l.map em
def ywU{l:List (List yR6)}:(ybD l).length=l.length:=by simp[ybD]
def yAV{l:List (List yR6)}{k:Nat}{ms:List yR6}(h:l[k]?=some ms):(ybD l)[k]?=some [.ow 3 (ms.map yR6.enc)]:=by unfold ybD;rw[zat,h];rfl
def yw2(l:List (List yR6)):yaq (ybD l)=some (l.map nD):=eF yHe l
def yEL{l:List (List yR6)}{k:Nat}{ms:List yR6}{m:yR6}(h:l[k]?=some ms):setAt (setAt (ybD l) k 0 C.jk) k 0 (.ow 3 (ms.map yR6.enc++[m.enc]))=ybD (l.set k (ms++[m])):=by
 have hk:=yAV h;have kl:=(zaa.1 hk).1;have gl:=(zaa.1 hk).2;have e:setAt (setAt (ybD l) k 0 C.jk) k 0 (.ow 3 (ms.map yR6.enc++[m.enc]))=(ybD l).set k (em (ms++[m])):=by simp[setAt,gl,kl,em,hk]
 rw[e];unfold ybD;rw[zaP]
def yew(x:yRW)(k:Nat):yRW:=if(iK x k).2 then(iK x k).1 else if(bH x k).2 then(bH x k).1 else xY x k
def yo5(x:yRW)(k:Nat):List (List C):=if(iK x k).2 then bM (iK x k).1.yRX else if(bH x k).2 then(bM x.yRX).set k (wC (yj x k))else bM (xY x k).yRX
set_option maxHeartbeats 8000000 in
set_option maxRecDepth 40000 in
def yD1(x:yRW)(k:Nat)(hs:x.small)(F:ySq x k)(hok:rC x=true)(hg0:yag x k≠0):
 InF prg 90 (.c (.bx (x.qX (bM x.yRX) (ybD x.yR3)))) (.c (.bx ((yew x k).qX (yo5 x k) (ybD (yew x k).yR3)))) [.c (.i k)] (.tup []):=by
 have kw:=F.kw;have kr:=F.kr;have sw:=F.sw;have rl:=F.rl;have lok:=F.lok;have wyl:=F.ways;have mvl:=F.mvs;have hms:=yw2 x.yR3;have hmr:=ywU (l:=x.yR3);have htm:∀l:List (List yR6),l.length=x.yR3.length->List.take x.yR3.length (ybD l)=ybD l:=λl h=>List.take_of_length_le (by rw[ywU];omega);have htm0:=htm x.yR3 rfl;have htm1:=λs (v:List yR6)=>htm (x.yR3.set s v) (by simp);have hw:=yi4 F.kw;have hsl:jM x k<x.yRV.length:=by unfold jM lI;split<;>omega
 have hr:=ye8 hsl;have hA:=yiz x k hs;have ha:=ye8 (rs:=x.yRV) (k:=k) (by omega);have hb:=ye8 kr;rw[ytL hok ⟨hw,ha,hb,F.wok,by have:=(yjV hok).wks;have:=(yjV hok).two;omega⟩]at hA;have hsm:=yhK (a:=dR x.yRV k) (b:=dR x.yRV (k+1)) sw;have hN:=ymP (able (dR x.yRV k) (dR x.yRV (k+1)) (dW x.yRX k)) (dW x.yRX k).Turn x.Time hsm;have hN2:ybZ x k=mW (able (dR x.yRV k) (dR x.yRV (k+1)) (dW x.yRX k)) (dW x.yRX k).Turn x.Time:=rfl;rw[<-hN2]at hN;generalize able (dR x.yRV k) (dR x.yRV (k+1)) (dW x.yRX k)=A at *;clear hN2 ha hb;have hLv:lW x k=sK (dW x.yRX k).yR0 (dR x.yRV (jM x k)):=rfl;have hLL:=yu6 (dW x.yRX k).yR0 (dR x.yRV (jM x k)) sw.1;rw[<-hLv]at hLL;have hSG:=ymz (dW x.yRX k).yR0 sw.1;rw[if_pos lok]at hSG;obtain⟨ms,hmm⟩:∃ms,x.yR3[jM x k]?=some ms:=⟨_,zab (by omega)⟩;have h24:=F.few ms (zac hmm);obtain⟨wy,hwy⟩:∃wy,x.ySl[jM x k]?=some wy:=⟨_,zab (by omega)⟩;have hIO:=yAu (dW x.yRX k).Pauses x.Time
 have yL:(lW x k).2.2=true->yew x k=oG (rD x k (rH (dW x.yRX k) (lW x k).1)) (jM x k) ⟨(lW x k).2.1,yfJ x k⟩/\yo5 x k=bM (x.yRX.set k (rH (dW x.yRX k) (lW x k).1)):=by
  intro h;have e:iK x k=(oG (rD x k (rH (dW x.yRX k) (lW x k).1)) (jM x k) ⟨(lW x k).2.1,yfJ x k⟩,true):=by unfold iK;rw[if_pos h]
  exact⟨by unfold yew;rw[e];rfl,by unfold yo5;rw[e];rfl⟩
 have yN:(lW x k).2.2=false->yew x k=(if(bH x k).2 then(bH x k).1 else xY x k)/\yo5 x k=(if(bH x k).2 then(bM x.yRX).set k (wC (yj x k))else bM (xY x k).yRX):=by
  intro h;have e:iK x k=(x,false):=by unfold iK;rw[if_neg (by rw[h];exact zaH)]
  exact⟨by unfold yew;rw[e];rfl,by unfold yo5;rw[e];rfl⟩
 have yE:yeC x k=true->(bH x k).2=true/\(bH x k).1=rD (ytx x k (yiZ x k)) k (yj x k):=by
  intro h;unfold bH;rw[if_pos h];exact⟨rfl,rfl⟩
 have yS:yeC x k=false->(bH x k).2=false:=by
  intro h;unfold bH;rw[if_neg (by rw[h];exact zaH)]
 have hS:xY x k=rD x k (if mG (dW x.yRX k) (ybZ x k)then ya7 (dW x.yRX k) 0 else dW x.yRX k):=rfl;have hMG:yeC x k=(decide ((dW x.yRX k).yR0.yRY=[])&&bW (dW x.yRX k).Pauses x.Time&& !decide (chosen x k=[])):=rfl;have hTg:=yBV x k hs F (ybD x.yR3) hmr;have hTn:=yBY x k hs F
 have hP:yfJ x k=if(dW x.yRX k).yR0.Gate=1 then wy.Long else 0:=by
  unfold yfJ yag;rw[zaf,hwy];rfl
 have hgt:(dW x.yRX k).yR0.Gate=1\/(dW x.yRX k).yR0.Gate=2:=by
  have:=(qW lok).gate;have h:(dW x.yRX k).yR0.Gate≠0:=hg0;omega
 have hsd:jM x k=if(dW x.yRX k).yR0.Gate=1 then k else k+1:=rfl
 obtain⟨Y,hY⟩:∃Y,yew x k=Y:=⟨_,rfl⟩;obtain⟨W,hW⟩:∃W,yo5 x k=W:=⟨_,rfl⟩;rw[hY,hW];rw[hY,hW]at yL yN;generalize lW x k=T at *;generalize jM x k=sd at *;generalize dR x.yRV sd=r at *;generalize hTX:ytx x k (yiZ x k)=TX at *;generalize hLK:yj x k=LK at *;generalize bH x k=E at *;generalize xY x k=S at *;generalize yeC x k=mg at *;generalize chosen x k=ch at *;generalize ybZ x k=N at *;generalize yfJ x k=lp at *;generalize dW x.yRX k=w at *;have hsw:=λl=>@yk6 x.yRX k (rH w l);simp only[yR8.enc,rH]at hsw;have aw:=yt5 hw;simp only[yR8.enc]at aw;have gaw:=(zaa.1 aw).2;have ka:k<x.yRV.length:=by omega
 have hwl:=ygI (ws:=x.yRX);have kwl:k<(bM x.yRX).length:=by rw[hwl];exact kw
 have htw:∀ws:List yR8,ws.length=x.yRX.length->List.take x.yRX.length (bM ws)=bM ws:=λws h=>List.take_of_length_le (by rw[ygI];omega);have htw0:=htw x.yRX rfl;have htws:∀X,List.take x.yRX.length ((bM x.yRX).set k X)=(bM x.yRX).set k X:=λX=>List.take_of_length_le (by rw[zbF,hwl];exact Nat.le_refl _);have htw1:=λv=>htw (x.yRX.set k v) (by simp);have hsg:=@yk6 x.yRX k (ya7 w 0);simp only[yR8.enc,ya7,yR0.yra]at hsg;have hse:x.yRX.set k w=x.yRX:=by rw[<-(zaa.1 hw).2,zdA]
 have hrs:=ycb x.yRX;rw[yo2]at hrs;have hre:=yo2 x.yRX;have am:=yAV hmm;have hput:=λm=>@yEL x.yR3 sd ms m hmm;simp only[yR6.enc]at hput;have ksm:sd<x.yR3.length:=by omega
 have ksl:sd<(ybD x.yR3).length:=by rw[hmr];exact ksm
 rcases hgt with hg|hg
 focus
  rw[hg,if_pos rfl]at hsd hP;rw[hsd]at hr hsl hmm hwy am hput ksm ksl yL;have ek:(0:Int)=0:=rfl;have hk1:(0=1)=False:=by simp
 rotate_left
 focus
  rw[hg,if_neg (show¬(2:Int)=1 from by decide)]at hsd hP;have ek:(k:Int)+1=(sd:Int):=by omega
  have hk1:((sd:Int)=(k:Int))=False:=eq_false (by omega)
 all_goals
  have gr:=(zaa.1 hr).2;have gam:=(zaa.1 am).2;have gwy:=(zaa.1 hwy).2;have lwy:=(zaa.1 hwy).1;obtain⟨tl,tt,tb⟩:=T;simp only at hLL;rcases zcy tb with hT|hT<;>subst hT
  .obtain⟨y1,y2⟩:=yL rfl;refine ycN jL (by simp) (by simp[yRW.qX]) rfl λhwf=>?_;simp -dsimp -implicitDefEqProofs [bK,yRW.qX,fC kw,hg,ek,hr,gr,hsl,aw,gaw,hwl,kw,kwl]
   first|refine⟨by unfold inI;omega,?_⟩|skip
   refine nC (hLL) (by simp -dsimp -implicitDefEqProofs [hg]) (.inl rfl) ?_;simp -dsimp -implicitDefEqProofs [hg,ek,hr,gr,hsl,aw,gaw,hwl,kw,kwl,am,gam,hmr,ksm,ksl,hwy,gwy,lwy,hsw,hk1];have htk:∀(p:Int),List.take (ms.length+1) (ms.map yR6.enc++[[C.b tt.Up,C.sl 1 (tt.Rows.map jE),C.i p]])=ms.map yR6.enc++[[C.b tt.Up,C.sl 1 (tt.Rows.map jE),C.i p]]:=λp=>List.take_of_length_le (by simp);have hpt:=hput ⟨tt,lp⟩;rw[hP]at hpt y1;refine⟨by omega,by simp[setAt,hmr,ksm],?_⟩;rw[htk,hpt];refine⟨by simp -dsimp -implicitDefEqProofs,⟨bD x x.Book x.yR1.length,[20000,40000,50000,130000],by simp -dsimp -implicitDefEqProofs [bD,hwl,hmr],?_,by decide⟩,⟨[],rfl,trivial⟩⟩;simp -dsimp -implicitDefEqProofs [bD,jA,htm0,htm1,htw0,htw1,rD,oG,hwl,hmr,hsw,y1,y2,hmm]
  obtain⟨y1,y2⟩:=yN rfl
  by_cases hm:mg=true
  .obtain⟨e1,e2⟩:=yE hm;rw[e1,if_pos rfl]at y1 y2;rw[e2]at y1;rw[hMG]at hm;simp only[zad,decide_eq_true_eq,zaU,decide_eq_false_iff_not]at hm;obtain⟨⟨hI,hop⟩,hch⟩:=hm;have i2:(w.yR0.yRY=[])=True:=eq_true hI;have hTM:TX.yR3=x.yR3:=by rw[<-hTX];rfl
   refine ycN jL (by simp) (by simp[yRW.qX]) rfl λhwf=>?_;simp -dsimp -implicitDefEqProofs [bK,yRW.qX,fC kw,hg,ek,hr,gr,hsl,aw,gaw,hwl,kw,kwl]
   first|refine⟨by unfold inI;omega,?_⟩|skip
   refine nC (hLL) (by simp -dsimp -implicitDefEqProofs [hg]) (.inl rfl) ?_;simp -dsimp -implicitDefEqProofs [i2,hg,ek,hr,gr,hsl,aw,gaw,hwl,kw,kwl]
   refineλ_=>?_
   refine yYs hIO ?_;simp -dsimp -implicitDefEqProofs [hop,i2,hg,ek,hr,gr,hsl,aw,gaw,hwl,kw,kwl];have hTq:=hTg hI hch;simp only[yRW.qX,wC]at hTq;refine ynX (by simp -dsimp -implicitDefEqProofs [hop]) (λK2 hK2=>yfT 101 (xs:=bD x x.Book x.yR1.length) (ids:=[20000,40000,50000,130000]) hTq (by simp -dsimp -implicitDefEqProofs [bD,hwl,hmr]) (by simp -dsimp -implicitDefEqProofs [bD,jA,htm0,htw0]) (by decide) (by simp -dsimp -implicitDefEqProofs) rfl rfl (by simp[fD]) hK2) (yafw hop ?_);refine⟨by simp -dsimp -implicitDefEqProofs,⟨[.c (.i TX.Time),.own 20101 3 TX.yRV.length,.c (.sl 2 (TX.ySl.map Way.enc)),.own 40101 22 x.yRX.length,.own 50101 1 x.yR3.length,.c (.sl 2 (TX.yR9.map yRT.enc)),.c (.sl 1 (TX.ySd.map qC)),.c (.i TX.yRZ.Base),.c (.i TX.yRZ.ySe),.c (.sl 1 (TX.yRZ.yR5.map qC)),.c (.sl 1 (TX.yRZ.yR7.map qC)),.c (.sl 5 (TX.Book.map ySb.enc)),.own 130101 4 TX.yR1.length,.c (.i TX.Start),.c (.i TX.In),.c (.i TX.Out)],[20101,40101,50101,130101],by simp -dsimp -implicitDefEqProofs [hwl,hmr],?_,by decide⟩,⟨[],rfl,trivial⟩⟩;simp -dsimp -implicitDefEqProofs [y1,y2,rD,wC,hTM,jA,htm0,htws,hwl,hmr]
  have hm:mg=false:=by simpa using hm
  rw[yS hm,if_neg zaH]at y1 y2;rw[hS]at y1 y2;rw[hMG]at hm
  by_cases hI:w.yR0.yRY=[]
  rotate_left
  .have i1:(0<w.yR0.yRY.length)=True:=eq_true (zbf.2 hI);have i2:(w.yR0.yRY=[])=False:=eq_false hI;rw[show mG w N=true by simp[mG,hI],if_pos rfl]at y1 y2;refine ycN jL (by simp) (by simp[yRW.qX]) rfl λhwf=>?_;simp -dsimp -implicitDefEqProofs [bK,yRW.qX,fC kw,hg,ek,hr,gr,hsl,aw,gaw,hwl,kw,kwl]
   first|refine⟨by unfold inI;omega,?_⟩|skip
   refine nC (hLL) (by simp -dsimp -implicitDefEqProofs [hg]) (.inl rfl) ?_;simp -dsimp -implicitDefEqProofs [i1,i2,hg,ek,hr,gr,hsl,aw,gaw,hwl,kw,kwl]
   refineλ_=>yha (by simp -dsimp -implicitDefEqProofs) (goQ_ ?_)
   refine pJ hA (by simp -dsimp -implicitDefEqProofs [jA,hms,htm0,hrs,hre]) (iJ yR4.aF _ _) (by simp[fD]) ?_;simp -dsimp -implicitDefEqProofs [hg,ek,hr,gr,hsl,aw,gaw,hwl,kw,kwl];refine nC (hN) (by simp -dsimp -implicitDefEqProofs [eF yR4.bF,jA]) (.inr rfl) ?_;simp -dsimp -implicitDefEqProofs [i1,i2,hg,ek,hr,gr,hsl,aw,gaw,hwl,kw,kwl]
   refineλ_=>?_
   refine iF (hSG) (by simp -dsimp -implicitDefEqProofs [hg]) rfl ?_;simp -dsimp -implicitDefEqProofs [hsg,hg,ek,hr,gr,hsl,aw,gaw,hwl,kw,kwl];refine⟨by simp -dsimp -implicitDefEqProofs,⟨bD x x.Book x.yR1.length,[20000,40000,50000,130000],by simp -dsimp -implicitDefEqProofs [bD,hwl,hmr],?_,by decide⟩,⟨[],rfl,trivial⟩⟩;simp -dsimp -implicitDefEqProofs [bD,jA,htm0,htm1,htw0,htw1,rD,oG,hwl,hmr,hsw,y1,y2,hsg,hg,ya7]
  have i1:(0<w.yR0.yRY.length)=False:=eq_false (by rw[hI];simp);have i2:(w.yR0.yRY=[])=True:=eq_true hI
  have hoc:bW w.Pauses x.Time=false\/(bW w.Pauses x.Time=true/\ch=[]):=by
   cases h:bW w.Pauses x.Time with
   |false=>exact .inl rfl
   |true=>exact .inr ⟨rfl,by simpa[hI,h]using hm⟩
  clear hm;rcases hoc with hop|⟨hop,hch⟩
  all_goals
   refine ycN jL (by simp) (by simp[yRW.qX]) rfl λhwf=>?_;simp -dsimp -implicitDefEqProofs [bK,yRW.qX,fC kw,hg,ek,hr,gr,hsl,aw,gaw,hwl,kw,kwl]
   first|refine⟨by unfold inI;omega,?_⟩|skip
   refine nC (hLL) (by simp -dsimp -implicitDefEqProofs [hg]) (.inl rfl) ?_;simp -dsimp -implicitDefEqProofs [i1,i2,hg,ek,hr,gr,hsl,aw,gaw,hwl,kw,kwl]
   refineλ_=>?_
   refine yYs hIO ?_;simp -dsimp -implicitDefEqProofs [hop,i1,i2,hg,ek,hr,gr,hsl,aw,gaw,hwl,kw,kwl]
  rotate_left
  focus
   refine ynX (by simp -dsimp -implicitDefEqProofs [hop]) (λK2 hK2=>mD (hTn hch) (by simp -dsimp -implicitDefEqProofs [jA,hms,htm0,hrs,hre]) rfl hK2) ?_
  rotate_left
  focus
   refine yha (by simp -dsimp -implicitDefEqProofs [hop]) ?_
  all_goals
   refine yafw hop ?_;refine pJ hA (by simp -dsimp -implicitDefEqProofs [jA,hms,htm0,hrs,hre]) (iJ yR4.aF _ _) (by simp[fD]) ?_;simp -dsimp -implicitDefEqProofs [hg,ek,hr,gr,hsl,aw,gaw,hwl,kw,kwl];refine nC (hN) (by simp -dsimp -implicitDefEqProofs [eF yR4.bF,jA]) (.inr rfl) ?_;simp -dsimp -implicitDefEqProofs [i1,i2,hg,ek,hr,gr,hsl,aw,gaw,hwl,kw,kwl]
   refineλ_=>⟨λh2=>⟨λh1=>?_,λh1=>?_⟩,λh2=>?_⟩
   .rw[show mG w N=true by simp[mG,hI,hg,h1,h2],if_pos rfl]at y1 y2;refine iF (hSG) (by simp -dsimp -implicitDefEqProofs [hg]) rfl ?_;simp -dsimp -implicitDefEqProofs [hsg,hg,ek,hr,gr,hsl,aw,gaw,hwl,kw,kwl];refine⟨by simp -dsimp -implicitDefEqProofs,⟨bD x x.Book x.yR1.length,[20000,40000,50000,130000],by simp -dsimp -implicitDefEqProofs [bD,hwl,hmr],?_,by decide⟩,⟨[],rfl,trivial⟩⟩;simp -dsimp -implicitDefEqProofs [bD,jA,htm0,htm1,htw0,htw1,rD,oG,hwl,hmr,hsw,y1,y2,hsg,hg,ya7]
   .rw[show mG w N=false by simp[mG,hI,hg,h1,h2],if_neg zaH]at y1 y2;refine⟨by simp -dsimp -implicitDefEqProofs,⟨bD x x.Book x.yR1.length,[20000,40000,50000,130000],by simp -dsimp -implicitDefEqProofs [bD,hwl,hmr],?_,by decide⟩,⟨[],rfl,trivial⟩⟩;simp -dsimp -implicitDefEqProofs [bD,jA,htm0,htm1,htw0,htw1,rD,oG,hwl,hmr,hsw,y1,y2,hse]
   .rw[show mG w N=false by simp[mG,hI,hg,h2],if_neg zaH]at y1 y2;refine⟨by simp -dsimp -implicitDefEqProofs,⟨bD x x.Book x.yR1.length,[20000,40000,50000,130000],by simp -dsimp -implicitDefEqProofs [bD,hwl,hmr],?_,by decide⟩,⟨[],rfl,trivial⟩⟩;simp -dsimp -implicitDefEqProofs [bD,jA,htm0,htm1,htw0,htw1,rD,oG,hwl,hmr,hsw,y1,y2,hse]
def yiY(d:Nat)(x:yRW)(w m:Nat):List AV:=[.c (.i x.Time),.own (20000+d) 3 x.yRV.length,.c (.sl 2 (x.ySl.map Way.enc)),.own (40000+d) 22 w,.own (50000+d) 1 m,.c (.sl 2 (x.yR9.map yRT.enc)),.c (.sl 1 (x.ySd.map qC)),.c (.i x.yRZ.Base),.c (.i x.yRZ.ySe),.c (.sl 1 (x.yRZ.yR5.map qC)),.c (.sl 1 (x.yRZ.yR7.map qC)),.c (.sl 5 (x.Book.map ySb.enc)),.own (130000+d) 4 x.yR1.length,.c (.i x.Start),.c (.i x.In),.c (.i x.Out)]
set_option maxHeartbeats 8000000 in
set_option maxRecDepth 40000 in
end
end Go.Proofs.YtdadkiofenhnbaaGreat
